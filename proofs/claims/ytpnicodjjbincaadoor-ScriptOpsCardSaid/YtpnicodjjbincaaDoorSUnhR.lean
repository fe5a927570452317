/- The contract of the reference's Unhex. -/
import Derived.Test.YtpnicodjjbincaaDoorSUnhW
import Derived.Handy
namespace Go.Proofs.YtpnicodjjbincaaDoor
open Go.RowKit
set_option linter.unusedVariables false
set_option maxHeartbeats 8000000
set_option maxRecDepth 100000
theorem digitR_cases (c : UInt8) : (digitR c = none ∧ ((c.toNat : Int) < 48 ∨ (57 < (c.toNat : Int) ∧ (c.toNat : Int) < 97) ∨ 102 < (c.toNat : Int))) ∨ (48 ≤ (c.toNat : Int) ∧ (c.toNat : Int) ≤ 57 ∧ ∃ a : Nat, digitR c = some a ∧ (a : Int) = (c.toNat : Int) - 48) ∨
    (97 ≤ (c.toNat : Int) ∧ (c.toNat : Int) ≤ 102 ∧ ∃ a : Nat, digitR c = some a ∧ (a : Int) = (c.toNat : Int) - 87) := by
  unfold digitR
  by_cases h1 : 48 ≤ c.toNat ∧ c.toNat ≤ 57
  · right; left
    exact ⟨by omega, by omega, c.toNat - 48, by rw [if_pos h1], by omega⟩
  · by_cases h2 : 97 ≤ c.toNat ∧ c.toNat ≤ 102
    · right; right
      exact ⟨by omega, by omega, c.toNat - 97 + 10, by rw [if_neg h1, if_pos h2], by omega⟩
    · left
      exact ⟨by rw [if_neg h1, if_neg h2], by omega⟩
theorem pairs_step (x y : UInt8) (r : Tx) : unhexPairs (x :: y :: r) = match digitR x, digitR y with
    | some a, some b => match unhexPairs r with
      | some t => some (UInt8.ofNat (16 * a + b) :: t)
      | none => none
    | _, _ => none := rfl
theorem pairs_odd : ∀ s : Tx, s.length % 2 = 1 → unhexPairs s = none
  | [], h => by simp at h
  | [_], _ => rfl
  | x :: y :: r, h => by
    have := pairs_odd r (by simp only [List.length_cons] at h; omega)
    rw [pairs_step, this]
    cases digitR x <;> cases digitR y <;> rfl
def UnhEnd (w : World) (l : Tx) (e : Ending) (w' : World) : Prop := ∃ v b, e = .returned (.tuple #[v, .bool b]) ∧ Own w' w.heap.size 5 1 encB v l
theorem UnhEnd.mk {w w' : World} {l : Tx} {e : Ending} {v : Value} {b : Bool} (he : e = .returned (.tuple #[v, .bool b])) (ho : Own w' w.heap.size 5 1 encB v l) : UnhEnd w l e w' := ⟨v, b, he, ho⟩
theorem unhexRW (s : ByteArray) (hs : s.size ≤ 1000000) (w : World) :
    Calls Tryd.prog 34 #[.string s] w fun e w' => UnhEnd w (unhexR s.data.toList) e w' ∧ Mod (fun _ => False) w w' := by
  obtain ⟨i0, hi0, hz0, hz1, hz2⟩ := info_parts byte_info
  generalize hR : unhexR s.data.toList = R
  have hsl := data_len s
  by_cases hdash : s.data.toList = [45]
  · have hrr : R = [] := by rw [← hR]; unfold unhexR; rw [if_pos hdash]
    subst hrr
    have d1 : s.toList = [45] := by rw [ByteArray.toList_eq]; exact hdash
    clear hdash hR
    go_enter Tryd.func34, Tryd.ntmps34
    go_wp2_with fail
    go_returns
    exact ⟨UnhEnd.mk rfl Own.nil, Mod.refl _ _⟩
  · have d1 : ¬ s.toList = [45] := by rw [ByteArray.toList_eq]; exact hdash
    have d2 : (s.toList == [45]) = false := by simpa using d1
    by_cases hemp : s.data.toList = []
    · have hrr : R = [] := by rw [← hR]; unfold unhexR; rw [if_neg hdash, if_pos hemp]
      subst hrr
      obtain ⟨hse, hse2⟩ := str_empty hemp
      clear hdash hemp hR
      go_enter Tryd.func34, Tryd.ntmps34
      go_wp2_with fail
      go_returns
      exact ⟨UnhEnd.mk rfl Own.nil, Mod.refl _ _⟩
    · obtain ⟨hse, hse2⟩ := str_some hemp
      have hR2 : (unhexPairs s.data.toList).getD [] = R := by rw [← hR]; unfold unhexR; rw [if_neg hdash, if_neg hemp]
      by_cases hodd : s.size % 2 = 1
      · have hrr : R = [] := by rw [← hR2, pairs_odd _ (by rw [hsl]; exact hodd)]; rfl
        subst hrr
        have o1 : (s.size : Int).tmod 2 = 1 := by rw [Int.tmod_eq_emod_of_nonneg (by omega)]; omega
        have o2 : ((s.size : Int).tmod 2 == 0) = false := by rw [o1]; rfl
        have o3 : IntKind.i64.wrap ((s.size : Int).tmod 2) = 1 := by rw [o1]; rfl
        clear hdash hemp hR hR2
        go_enter Tryd.func34, Tryd.ntmps34
        go_wp2_with fail
        go_returns
        exact ⟨UnhEnd.mk rfl Own.nil, Mod.refl _ _⟩
      · have o1 : (s.size : Int).tmod 2 = 0 := by rw [Int.tmod_eq_emod_of_nonneg (by omega)]; omega
        have o2 : ((s.size : Int).tmod 2 == 0) = true := by rw [o1]; rfl
        have o3 : IntKind.i64.wrap ((s.size : Int).tmod 2) = 0 := by rw [o1]; rfl
        generalize hB : unhexPairs s.data.toList = B at hR2
        have HR2 := Lib.hid hR2
        have HB : Hid ((unhexPairs (s.data.toList.drop 0)).map (fun t => [] ++ t) = B) := Lib.hid (by simpa using hB)
        have HBB := Lib.hid hB
        clear hdash hemp hR hR2 hB
        go_enter Tryd.func34, Tryd.ntmps34
        go_wp2_with fail
        go_loopw [4, 5] (fun x i wr => ∃ (q : Nat) (l : Tx), i = .int .i64 q ∧ q ≤ s.size ∧ q % 2 = 0 ∧ l.length ≤ q ∧ Own wr w.heap.size 5 1 encB x l ∧ Mod (fun _ => False) w wr ∧ Hid ((unhexPairs (s.data.toList.drop q)).map (fun t => l ++ t) = B)) (fun _ i _ => s.size - (RowKit.intOf i).toNat)
        case atStart => exact ⟨0, [], rfl, by omega, rfl, by simp, Own.nil, Mod.refl _ _, HB⟩
        case round =>
          obtain ⟨q, l, rfl, hq, hqe, hlq, ho, hm, houter⟩ := hrel
          obtain ⟨Ao, co, rfl, hco, -⟩ := ho.form
          by_cases hqs : q < s.size
          · have hq1 : q + 1 < s.size := by omega
            obtain ⟨x, hd, hx⟩ := str_at (s := s) (q := q) (by omega)
            obtain ⟨y, hd2, hy⟩ := str_at (s := s) (q := q + 1) (by omega)
            rw [hd, hd2, pairs_step] at houter
            have hqz : (q : Int) < (s.size : Int) := by omega
            have hqz1 : (q : Int) + 1 < (s.size : Int) := by omega
            have w0 : IntKind.i64.wrap (q : Int) = (q : Int) := by rw [IntKind.wrap_i64]; omega
            have w1 : IntKind.i64.wrap ((q : Int) + 1) = (q : Int) + 1 := by rw [IntKind.wrap_i64]; omega
            have hxb := x.toNat_lt
            have hyb := y.toNat_lt
            have HO := Lib.hid (show wr.ownsRow w.heap.size 5 1 (.slice Ao l.length co) l.length (l.flatMap encB) from ho)
            have HM := Lib.hid hm
            have hsm := hm.size
            clear ho hm hd hd2
            go_wp2_with fail
            go_loopw [6, 7] (fun v k wi => ∃ (kk : Nat) (vv : Int), k = .int .i64 kk ∧ v = .int .i64 vv ∧ wi = wr ∧ ((kk = 0 ∧ vv = 0) ∨ (kk = 1 ∧ ∃ a : Nat, digitR x = some a ∧ vv = a ∧ a < 16) ∨ (kk = 2 ∧ ∃ a b : Nat, digitR x = some a ∧ digitR y = some b ∧ a < 16 ∧ b < 16 ∧ vv = 16 * a + b))) (fun _ k _ => 2 - (RowKit.intOf k).toNat)
            case atStart => exact ⟨0, 0, rfl, rfl, rfl, .inl ⟨rfl, rfl⟩⟩
            case round =>
              obtain ⟨kk, vv, rfl, rfl, rfl, hin⟩ := hrel
              rcases hin with ⟨rfl, rfl⟩ | ⟨rfl, a0, ha0, rfl, ha16⟩ | ⟨rfl, a0, b0, ha0, hb0, ha16, hb16, rfl⟩
              · have hcs := digitR_cases x
                rcases hcs with ⟨hno, hb⟩ | ⟨b1, b2, a, ha, hae⟩ | ⟨b1, b2, a, ha, hae⟩
                · have hbn : B = none := by
                    have h := houter.out
                    rw [hno] at h
                    simpa using h.symm
                  have hrr : R = [] := by rw [← HR2.out, hbn]; rfl
                  subst hrr
                  clear houter hbn hno
                  rcases hb with c1 | ⟨c1, c2⟩ | c1
                  · have e1 : ¬ (48 : Int) ≤ (x.toNat : Int) := by omega
                    have e2 : ¬ (97 : Int) ≤ (x.toNat : Int) := by omega
                    have e1' : decide ((48 : Int) ≤ (x.toNat : Int)) = false := by simpa using e1
                    have e2' : decide ((97 : Int) ≤ (x.toNat : Int)) = false := by simpa using e2
                    go_wp2_with fail
                    go_returns
                    exact ⟨UnhEnd.mk rfl Own.nil, HM.out⟩
                  · have e0 : (48 : Int) ≤ (x.toNat : Int) := by omega
                    have e1 : ¬ (x.toNat : Int) ≤ (57 : Int) := by omega
                    have e2 : ¬ (97 : Int) ≤ (x.toNat : Int) := by omega
                    have e1' : decide ((x.toNat : Int) ≤ (57 : Int)) = false := by simpa using e1
                    have e2' : decide ((97 : Int) ≤ (x.toNat : Int)) = false := by simpa using e2
                    go_wp2_with fail
                    go_returns
                    exact ⟨UnhEnd.mk rfl Own.nil, HM.out⟩
                  · have e0 : (48 : Int) ≤ (x.toNat : Int) := by omega
                    have e1 : ¬ (x.toNat : Int) ≤ (57 : Int) := by omega
                    have e2 : (97 : Int) ≤ (x.toNat : Int) := by omega
                    have e3 : ¬ (x.toNat : Int) ≤ (102 : Int) := by omega
                    have e1' : decide ((x.toNat : Int) ≤ (57 : Int)) = false := by simpa using e1
                    have e3' : decide ((x.toNat : Int) ≤ (102 : Int)) = false := by simpa using e3
                    go_wp2_with fail
                    go_returns
                    exact ⟨UnhEnd.mk rfl Own.nil, HM.out⟩
                · have t1 : IntKind.u8.wrap ((x.toNat : Int) - 48) = (x.toNat : Int) - 48 := by simp [IntKind.wrap, IntKind.bits, IntKind.signed]; omega
                  have t2 : IntKind.i64.wrap ((x.toNat : Int) - 48) = (x.toNat : Int) - 48 := by rw [IntKind.wrap_i64]; omega
                  have t3 : IntKind.i64.wrap (16 * 0) = 16 * 0 := by rw [IntKind.wrap_i64]; omega
                  have t4 : IntKind.i64.wrap (16 * 0 + ((x.toNat : Int) - 48)) = 16 * 0 + ((x.toNat : Int) - 48) := by rw [IntKind.wrap_i64]; omega
                  have t5 : IntKind.i64.wrap (0 + ((x.toNat : Int) - 48)) = (x.toNat : Int) - 48 := by rw [IntKind.wrap_i64]; omega
                  go_wp2_with fail
                  go_roundw
                  case rel => exact ⟨1, _, by go_num, rfl, trivial, .inr (.inl ⟨rfl, a, ha, by omega, by omega⟩)⟩
                  case measure => simp [RowKit.intOf]
                · have e1 : ¬ (x.toNat : Int) ≤ (57 : Int) := by omega
                  have e1' : decide ((x.toNat : Int) ≤ (57 : Int)) = false := by simpa using e1
                  have e0 : (48 : Int) ≤ (x.toNat : Int) := by omega
                  have t1 : IntKind.u8.wrap ((x.toNat : Int) - 97) = (x.toNat : Int) - 97 := by simp [IntKind.wrap, IntKind.bits, IntKind.signed]; omega
                  have t2 : IntKind.i64.wrap ((x.toNat : Int) - 97) = (x.toNat : Int) - 97 := by rw [IntKind.wrap_i64]; omega
                  have t3 : IntKind.i64.wrap (16 * 0) = 16 * 0 := by rw [IntKind.wrap_i64]; omega
                  have t4 : IntKind.i64.wrap (16 * 0 + ((x.toNat : Int) - 97)) = 16 * 0 + ((x.toNat : Int) - 97) := by rw [IntKind.wrap_i64]; omega
                  have t5 : IntKind.i64.wrap (0 + ((x.toNat : Int) - 97)) = (x.toNat : Int) - 97 := by rw [IntKind.wrap_i64]; omega
                  have t6 : IntKind.i64.wrap (16 * 0 + ((x.toNat : Int) - 97) + 10) = 16 * 0 + ((x.toNat : Int) - 97) + 10 := by rw [IntKind.wrap_i64]; omega
                  have t7 : IntKind.i64.wrap ((x.toNat : Int) - 97 + 10) = (x.toNat : Int) - 97 + 10 := by rw [IntKind.wrap_i64]; omega
                  go_wp2_with fail
                  go_roundw
                  case rel => exact ⟨1, _, by go_num, rfl, trivial, .inr (.inl ⟨rfl, a, ha, by omega, by omega⟩)⟩
                  case measure => simp [RowKit.intOf]
              · have hcs := digitR_cases y
                have hy2 : ∀ h', s[((q : Int) + 1).toNat]'h' = y := hy
                rcases hcs with ⟨hno, hb⟩ | ⟨b1, b2, a, ha, hae⟩ | ⟨b1, b2, a, ha, hae⟩
                · have hbn : B = none := by
                    have h := houter.out
                    rw [ha0, hno] at h
                    simpa using h.symm
                  have hrr : R = [] := by rw [← HR2.out, hbn]; rfl
                  subst hrr
                  clear houter hbn hno
                  rcases hb with c1 | ⟨c1, c2⟩ | c1
                  · have e1 : ¬ (48 : Int) ≤ (y.toNat : Int) := by omega
                    have e2 : ¬ (97 : Int) ≤ (y.toNat : Int) := by omega
                    have e1' : decide ((48 : Int) ≤ (y.toNat : Int)) = false := by simpa using e1
                    have e2' : decide ((97 : Int) ≤ (y.toNat : Int)) = false := by simpa using e2
                    go_wp2_with fail
                    go_returns
                    exact ⟨UnhEnd.mk rfl Own.nil, HM.out⟩
                  · have e0 : (48 : Int) ≤ (y.toNat : Int) := by omega
                    have e1 : ¬ (y.toNat : Int) ≤ (57 : Int) := by omega
                    have e2 : ¬ (97 : Int) ≤ (y.toNat : Int) := by omega
                    have e1' : decide ((y.toNat : Int) ≤ (57 : Int)) = false := by simpa using e1
                    have e2' : decide ((97 : Int) ≤ (y.toNat : Int)) = false := by simpa using e2
                    go_wp2_with fail
                    go_returns
                    exact ⟨UnhEnd.mk rfl Own.nil, HM.out⟩
                  · have e0 : (48 : Int) ≤ (y.toNat : Int) := by omega
                    have e1 : ¬ (y.toNat : Int) ≤ (57 : Int) := by omega
                    have e2 : (97 : Int) ≤ (y.toNat : Int) := by omega
                    have e3 : ¬ (y.toNat : Int) ≤ (102 : Int) := by omega
                    have e1' : decide ((y.toNat : Int) ≤ (57 : Int)) = false := by simpa using e1
                    have e3' : decide ((y.toNat : Int) ≤ (102 : Int)) = false := by simpa using e3
                    go_wp2_with fail
                    go_returns
                    exact ⟨UnhEnd.mk rfl Own.nil, HM.out⟩
                · have t1 : IntKind.u8.wrap ((y.toNat : Int) - 48) = (y.toNat : Int) - 48 := by simp [IntKind.wrap, IntKind.bits, IntKind.signed]; omega
                  have t2 : IntKind.i64.wrap ((y.toNat : Int) - 48) = (y.toNat : Int) - 48 := by rw [IntKind.wrap_i64]; omega
                  have t3 : IntKind.i64.wrap (16 * (a0 : Int)) = 16 * (a0 : Int) := by rw [IntKind.wrap_i64]; omega
                  have t4 : IntKind.i64.wrap (16 * (a0 : Int) + ((y.toNat : Int) - 48)) = 16 * (a0 : Int) + ((y.toNat : Int) - 48) := by rw [IntKind.wrap_i64]; omega
                  have t5 : IntKind.i64.wrap (0 + ((y.toNat : Int) - 48)) = (y.toNat : Int) - 48 := by rw [IntKind.wrap_i64]; omega
                  go_wp2_with fail
                  go_roundw
                  case rel => exact ⟨2, _, by go_num, rfl, trivial, .inr (.inr ⟨rfl, a0, a, ha0, ha, ha16, by omega, by omega⟩)⟩
                  case measure => simp [RowKit.intOf]
                · have e1 : ¬ (y.toNat : Int) ≤ (57 : Int) := by omega
                  have e1' : decide ((y.toNat : Int) ≤ (57 : Int)) = false := by simpa using e1
                  have e0 : (48 : Int) ≤ (y.toNat : Int) := by omega
                  have t1 : IntKind.u8.wrap ((y.toNat : Int) - 97) = (y.toNat : Int) - 97 := by simp [IntKind.wrap, IntKind.bits, IntKind.signed]; omega
                  have t2 : IntKind.i64.wrap ((y.toNat : Int) - 97) = (y.toNat : Int) - 97 := by rw [IntKind.wrap_i64]; omega
                  have t3 : IntKind.i64.wrap (16 * (a0 : Int)) = 16 * (a0 : Int) := by rw [IntKind.wrap_i64]; omega
                  have t4 : IntKind.i64.wrap (16 * (a0 : Int) + ((y.toNat : Int) - 97)) = 16 * (a0 : Int) + ((y.toNat : Int) - 97) := by rw [IntKind.wrap_i64]; omega
                  have t5 : IntKind.i64.wrap (0 + ((y.toNat : Int) - 97)) = (y.toNat : Int) - 97 := by rw [IntKind.wrap_i64]; omega
                  have t6 : IntKind.i64.wrap (16 * (a0 : Int) + ((y.toNat : Int) - 97) + 10) = 16 * (a0 : Int) + ((y.toNat : Int) - 97) + 10 := by rw [IntKind.wrap_i64]; omega
                  have t7 : IntKind.i64.wrap ((y.toNat : Int) - 97 + 10) = (y.toNat : Int) - 97 + 10 := by rw [IntKind.wrap_i64]; omega
                  go_wp2_with fail
                  go_roundw
                  case rel => exact ⟨2, _, by go_num, rfl, trivial, .inr (.inr ⟨rfl, a0, a, ha0, ha, ha16, by omega, by omega⟩)⟩
                  case measure => simp [RowKit.intOf]
              · have hz : IntKind.u8.wrap (16 * (a0 : Int) + (b0 : Int)) = ((UInt8.ofNat (16 * a0 + b0)).toNat : Int) := by
                  rw [UInt8.toNat_ofNat']
                  simp [IntKind.wrap, IntKind.bits, IntKind.signed]
                have hre : Hid ((unhexPairs (s.data.toList.drop (q + 2))).map (fun t => (l ++ [UInt8.ofNat (16 * a0 + b0)]) ++ t) = B) := by
                  have h := houter.out
                  rw [ha0, hb0] at h
                  simp only [] at h
                  refine Lib.hid ?_
                  rw [← h]
                  cases unhexPairs (s.data.toList.drop (q + 2)) <;> simp
                generalize UInt8.ofNat (16 * a0 + b0) = z at *
                clear houter hx hy
                go_wp2_with (at_builtin
                             refine wpList_append_any _ rfl (.tmp 61) (.tmp 64) _ rfl w.heap.size 5 i0 _ 1 1 Tryd.underlying22 hi0 hz0 hz1 hz2 rfl (by omega) (.slice Ao l.length co) l.length (l.flatMap encB) rfl (own_mod ((Mod.refl (fun _ => False) wr).alloc _) HO.out (fun _ _ e => e)) _ (some ⟨wr.heap.size, 0, none⟩) 1 1 [.int .u8 (z.toNat : Int)] rfl (Reads.of_own (litOwn (w := wr) (n := wr.heap.size) 5 #[.int .u8 (z.toNat : Int)] 1 rfl (Nat.zero_le _) (by decide) rfl)) (fun y hy => by simp at hy; rw [hy]; rfl) (by simp only [maxLen]; omega) (by omega) (by simp; omega) ?_
                             intro v' w' hown' hgr' hat')
                have ho5 : Own w' w.heap.size 5 1 encB v' (l ++ [z]) := by
                  unfold Own
                  rw [List.length_append, List.flatMap_append]
                  exact hown'
                have HM5 := Lib.hid ((HM.out.alloc (.cells #[.int .u8 (z.toNat : Int)] 5)).trans (Mod.ofGrown hgr') (fun z hz e => by have := (HO.out.lt z e).1; omega))
                have HO5 := Lib.hid ho5
                have hl5 : (l ++ [z]).length ≤ q + 2 := by simp; omega
                clear ho5 hown' hgr' hat'
                go_wp2_with fail
                go_roundw
                case rel => exact ⟨q + 2, l ++ [z], by go_num, by omega, by omega, hl5, HO5.out, HM5.out, hre⟩
                case measure => simp [RowKit.intOf]; omega
          · have hend : q = s.size := by omega
            have hbl : B = some l := by
              have h := houter.out
              rw [str_end (by omega)] at h
              simpa [unhexPairs] using h.symm
            have hrr : R = l := by rw [← HR2.out, hbl]; rfl
            have hqz : ¬ (q : Int) < (s.size : Int) := by omega
            have HO := Lib.hid ho
            have HM := Lib.hid hm
            subst hrr
            clear ho hm houter hbl
            go_wp2_with fail
            go_returns
            exact ⟨UnhEnd.mk rfl HO.out, HM.out⟩
end Go.Proofs.YtpnicodjjbincaaDoor
