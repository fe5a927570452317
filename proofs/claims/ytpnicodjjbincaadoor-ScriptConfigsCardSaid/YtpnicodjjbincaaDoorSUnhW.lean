/- The contract of the program's unhex. -/
import Derived.Test.YtpnicodjjbincaaDoorSHexR
namespace Go.Proofs.YtpnicodjjbincaaDoor
open Go.RowKit
set_option linter.unusedVariables false
set_option maxHeartbeats 4000000
set_option maxRecDepth 100000
theorem pair_all : ∀ i j : Fin 17, IntKind.u8.wrap (bits .or .i64 (IntKind.i64.wrap (((i.val : Int) - 1) * 16)) (bits .and .i64 ((j.val : Int) - 1) 15)) = ((pairV ((i.val : Int) - 1) ((j.val : Int) - 1)).toNat : Int) := by decide +kernel
theorem pair_val (i j : Int) (i0 : -1 ≤ i) (i1 : i ≤ 15) (j0 : -1 ≤ j) (j1 : j ≤ 15) : IntKind.u8.wrap (bits .or .i64 (IntKind.i64.wrap (i * 16)) (bits .and .i64 j 15)) = ((pairV i j).toNat : Int) := by
  obtain ⟨a, rfl⟩ : ∃ a : Nat, i = (a : Int) - 1 := ⟨(i + 1).toNat, by omega⟩
  obtain ⟨b, rfl⟩ : ∃ b : Nat, j = (b : Int) - 1 := ⟨(j + 1).toNat, by omega⟩
  exact pair_all ⟨a, by omega⟩ ⟨b, by omega⟩
theorem u8_back (c : UInt8) : ((c.toNat : Int).toNat).toUInt8 = c := by simp
theorem unhexW (s : ByteArray) (hs : s.size ≤ 1000000) (w : World) :
    Calls Tryd.prog 29 #[.string s] w fun e w' => (∃ v, e = .returned v ∧ Own w' w.heap.size 5 1 encB v (unhexP s.data.toList)) ∧ Mod (fun _ => False) w w' := by
  obtain ⟨i0, hi0, hz0, hz1, hz2⟩ := info_parts byte_info
  generalize hR : unhexP s.data.toList = R
  have HR := Lib.hid hR
  clear hR
  go_enter Tryd.func29, Tryd.ntmps29
  go_wp2_with fail
  go_loopw [2, 3] (fun x i wr => ∃ (q : Nat) (l : Tx), i = .int .i64 q ∧ q ≤ s.size ∧ l.length ≤ q ∧ Own wr w.heap.size 5 1 encB x l ∧ Mod (fun _ => False) w wr ∧ Hid (l ++ unhexP (s.data.toList.drop q) = R)) (fun _ i _ => s.size - (RowKit.intOf i).toNat)
  case atStart => exact ⟨0, [], rfl, by omega, by simp, Own.nil, Mod.refl _ _, Lib.hid HR.out⟩
  case round =>
    obtain ⟨q, l, rfl, hq, hlq, ho, hm, hrel⟩ := hrel
    obtain ⟨Ao, co, rfl, hco, -⟩ := ho.form
    have w1 : IntKind.i64.wrap ((q : Int) + 1) = (q : Int) + 1 := by rw [IntKind.wrap_i64]; omega
    by_cases hqs : q + 1 < s.size
    · obtain ⟨x, hd, hx⟩ := str_at (s := s) (q := q) (by omega)
      obtain ⟨y, hd2, hy⟩ := str_at (s := s) (q := q + 1) (by omega)
      have hqz : (q : Int) + 1 < (s.size : Int) := by omega
      have hqz2 : (q : Int) < (s.size : Int) := by omega
      have hqz0 : (0 : Int) ≤ (q : Int) + 1 := by omega
      have hy2 : ∀ h', s[((q : Int) + 1).toNat]'h' = y := hy
      have hix := idx_bd x
      have hiy := idx_bd y
      have ex := u8_back x
      have ey := u8_back y
      rw [hd, hd2, unhexP] at hrel
      generalize hi : Lib.indexByte hexDigits x = i at *
      generalize hj : Lib.indexByte hexDigits y = j at *
      have hpv := pair_val i j hix.1 hix.2 hiy.1 hiy.2
      generalize pairV i j = z at *
      have cx := Tryd.strings_IndexByte ⟨#[48, 49, 50, 51, 52, 53, 54, 55, 56, 57, 97, 98, 99, 100, 101, 102]⟩ (x.toNat : Int)
      have cy := Tryd.strings_IndexByte ⟨#[48, 49, 50, 51, 52, 53, 54, 55, 56, 57, 97, 98, 99, 100, 101, 102]⟩ (y.toNat : Int)
      rw [ex] at cx
      rw [ey] at cy
      have e0 : (⟨#[48, 49, 50, 51, 52, 53, 54, 55, 56, 57, 97, 98, 99, 100, 101, 102]⟩ : ByteArray).data.toList = hexDigits := rfl
      rw [e0, hi] at cx
      rw [e0, hj] at cy
      have CX := Lib.hid cx
      have CY := Lib.hid cy
      have HO := Lib.hid (show wr.ownsRow w.heap.size 5 1 (.slice Ao l.length co) l.length (l.flatMap encB) from ho)
      have HM := Lib.hid hm
      have hsm := hm.size
      clear cx cy e0 ex ey hi hj hd hd2 ho hm hix hiy
      go_upto_region 4 with fail
      go_region_held3 (fun w' => Mod (fun _ => False) w w')
        (first | assumption | exact HM.out.drew | exact (HM.out.alloc _).drew)
        (first
          | (go_at_call 47; first | (refine (CX.out _).mono ?_; rintro e wa ⟨rfl, rfl⟩) | (refine (CY.out _).mono ?_; rintro e wa ⟨rfl, rfl⟩))
          | (refine step_append_any _ (by rfl) (.tmp 11) (.tmp 25) 22 (by rfl) w.heap.size 5 i0 _ 1 1 Tryd.underlying22 hi0 hz0 hz1 hz2 (by rfl) (by omega) (.slice Ao l.length co) l.length (l.flatMap encB) (by rfl) (own_drew (own_mod ((Mod.refl (fun _ => False) wr).alloc _) HO.out (fun _ _ e => e))) _ (some ⟨wr.heap.size, 0, none⟩) 1 1 [.int .u8 (z.toNat : Int)] (by rfl) (Reads.of_own (own_drew (litOwn (w := wr) (n := wr.heap.size) 5 #[.int .u8 (z.toNat : Int)] 1 (by simp) (Nat.zero_le _) (by decide) rfl))) (fun y hy => by simp at hy; rcases hy with rfl; rfl) (by simp only [maxLen]; omega) (by omega) (by simp; omega) ?_; intro v5 w5 hown5 hgr5 hat5; have hm5 : Mod (fun _ => False) w w5 := ((HM.out.alloc _).drew).trans (Mod.ofGrown hgr5) (fun z hz e => by have := (HO.out.lt z e).1; omega)))
      all_goals
        have ho5 : Own w5 w.heap.size 5 1 encB v5 (l ++ [z]) := by
          unfold Own
          rw [List.length_append, List.flatMap_append]
          exact hown5
        have HO5 := Lib.hid ho5
        have HM5 := Lib.hid hm5
        have hl5 : (l ++ [z]).length ≤ q + 2 := by simp; omega
        have hre : Hid ((l ++ [z]) ++ unhexP (s.data.toList.drop (q + 2)) = R) := Lib.hid (by rw [List.append_assoc]; exact hrel.out)
        generalize l ++ [z] = l2 at *
        clear ho5 hm5 hown5 hgr5 hat5 hrel hpv hx hy hy2
        go_wp2_with fail
        go_roundw
        case rel => exact ⟨q + 2, l2, by go_num, by omega, hl5, HO5.out, HM5.out, hre⟩
        case measure => simp [RowKit.intOf]; omega
    · have hqz : ¬ (q : Int) + 1 < (s.size : Int) := by omega
      have hun : unhexP (s.data.toList.drop q) = [] := by
        by_cases h : q < s.size
        · obtain ⟨x, hd, hx⟩ := str_at (s := s) (q := q) h
          rw [hd, str_end (by omega)]
          rfl
        · rw [str_end (by omega)]
          rfl
      rw [hun, List.append_nil] at hrel
      have hlr := hrel.out
      have HO := Lib.hid ho
      have HM := Lib.hid hm
      clear hun hrel ho hm
      go_wp2_with fail
      go_ret
      rw [← hlr]
      exact ⟨⟨_, rfl, HO.out⟩, HM.out⟩
end Go.Proofs.YtpnicodjjbincaaDoor
