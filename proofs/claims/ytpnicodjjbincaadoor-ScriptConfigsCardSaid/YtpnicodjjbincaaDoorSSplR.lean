/- The contract of the reference's Split. -/
import Derived.Test.YtpnicodjjbincaaDoorSSplW
import Derived.Lib.IndexBytes
namespace Go.Proofs.YtpnicodjjbincaaDoor
open Go.RowKit
set_option linter.unusedVariables false
set_option maxHeartbeats 4000000
set_option maxRecDepth 100000
theorem str_info : (Tryd.prog.info? 9).map (fun i => (i.zero, i.size, i.bytes)) = some (some (.string ⟨#[]⟩), 1, 16) := by kernel_rfl
theorem one_T (l : List Tx) : ∀ y ∈ l.flatMap encT, y.oneCell' = true := fun y hy => by
  obtain ⟨c, _, hc⟩ := List.mem_flatMap.1 hy
  simp [encT] at hc
  rw [hc]
  rfl
theorem slice_tb (s : ByteArray) (a b : Nat) (h : a ≤ b) (h2 : b ≤ s.size) (w : World) :
    (Instr.slice 9 (.string s) (some (.int .i64 (a : Int))) (some (.int .i64 (b : Int))) none).run Tryd.prog w = .ok (.string (tb ((s.data.toList.drop a).take (b - a)))) w := by
  rw [run_slice_string (h := Tryd.underlying9) (h0 := by omega) (h1 := by omega) (h2 := by omega)]
  have : s.extract ((a : Int)).toNat ((b : Int)).toNat = tb ((s.data.toList.drop a).take (b - a)) := by
    apply data_inj
    rw [tb_data, Lib.extract_data]
    rfl
  rw [this]
theorem cut_piece (x : UInt8) (l : Tx) (n : Nat) (h : ∀ c ∈ l.take n, c ≠ x) (hn : l.drop n = [] ∨ ∃ r, l.drop n = x :: r) : cutT x l = l.take n :: (match l.drop n with
    | [] => []
    | _ :: r => cutT x r) := by
  have e := (List.take_append_drop n l).symm
  rcases hn with hn | ⟨r, hn⟩
  · rw [hn, List.append_nil] at e
    rw [hn]
    have := wordsT_one x (l.take n) h
    rw [← e] at this
    rw [this, ← e]
  · rw [hn] at e
    rw [hn]
    have := wordsT_app x (l.take n) r h
    rw [← e] at this
    exact this
theorem splitRW (s : ByteArray) (hs : s.size ≤ 100000) (w : World) :
    Calls Tryd.prog 30 #[.string s] w fun e w' => (∃ v, e = .returned v ∧ Own w' w.heap.size 9 1 encT v (wordsT s.data.toList)) ∧ Mod (fun _ => False) w w' := by
  obtain ⟨i0, hi0, hz0, hz1, hz2⟩ := info_parts str_info
  generalize hR : wordsT s.data.toList = R
  have HR : Hid (cutT 32 s.data.toList = R) := Lib.hid hR
  clear hR
  go_enter Tryd.func30, Tryd.ntmps30
  go_wp2_with fail
  go_loopw [3, 4, 5] (fun v f i wr => ∃ (q fr : Nat) (l : List Tx), i = .int .i64 q ∧ f = .int .i64 fr ∧ l.length ≤ q ∧ Own wr w.heap.size 9 1 encT v l ∧ Mod (fun _ => False) w wr ∧
      ((q ≤ s.size ∧ fr ≤ q ∧ Hid (l ++ cutT 32 (s.data.toList.drop fr) = R ∧ ∀ c ∈ (s.data.toList.drop fr).take (q - fr), c ≠ 32)) ∨ (q = s.size + 1 ∧ fr ≤ 1000000 ∧ Hid (l = R)))) (fun _ _ i _ => s.size + 1 - (RowKit.intOf i).toNat)
  case atStart => exact ⟨0, 0, [], rfl, rfl, by simp, Own.nil, Mod.refl _ _, .inl ⟨by omega, by omega, Lib.hid ⟨HR.out, by simp⟩⟩⟩
  case round =>
    obtain ⟨q, fr, l, rfl, rfl, hlq, ho, hm, hrel⟩ := hrel
    obtain ⟨Ao, co, rfl, hco, -⟩ := ho.form
    rcases hrel with ⟨hq, hfr, hrel⟩ | ⟨rfl, hfr, hrel⟩
    · have w1 : IntKind.i64.wrap ((q : Int) + 1) = (q : Int) + 1 := by rw [IntKind.wrap_i64]; omega
      have hqz : (q : Int) ≤ (s.size : Int) := by omega
      have hsl := slice_tb s fr q hfr hq
      obtain ⟨t, ht⟩ : ∃ t, t = (s.data.toList.drop fr).take (q - fr) := ⟨_, rfl⟩
      rw [← ht] at hsl hrel
      have HT := Lib.hid ht
      have HO := Lib.hid (show wr.ownsRow w.heap.size 9 1 (.slice Ao l.length co) l.length (l.flatMap encT) from ho)
      have HM := Lib.hid hm
      have hsm := hm.size
      have hdd : (s.data.toList.drop fr).drop (q - fr) = s.data.toList.drop q := by rw [List.drop_drop]; congr 1; omega
      have HDD := Lib.hid hdd
      clear ht ho hm hdd
      by_cases hend : q = s.size
      · subst hend
        have hfin : l ++ [t] = R := by
          obtain ⟨h1, h2⟩ := hrel.out
          have hcp := cut_piece 32 (s.data.toList.drop fr) (s.size - fr) (by rw [← HT.out]; exact h2) (.inl (by rw [HDD.out]; exact str_end (by omega)))
          rw [HDD.out, str_end (Nat.le_refl s.size), ← HT.out] at hcp
          rw [← h1, hcp]
        have HFIN := Lib.hid hfin
        clear hrel hfin
        go_wp2_with (at_builtin
                     refine wpList_append_any _ rfl (.tmp 22) (.tmp 27) _ rfl w.heap.size 9 i0 _ 1 16 Tryd.underlying39 hi0 hz0 hz1 hz2 rfl (by omega) (.slice Ao l.length co) l.length (l.flatMap encT) rfl (own_mod ((Mod.refl (fun _ => False) wr).alloc _) HO.out (fun _ _ e => e)) _ (some ⟨wr.heap.size, 0, none⟩) 1 1 [.string (tb t)] rfl (Reads.of_own (litOwn (w := wr) (n := wr.heap.size) 9 #[.string (tb t)] 1 rfl (Nat.zero_le _) (by decide) rfl)) (fun y hy => by simp at hy; rw [hy]; rfl) (by simp only [maxLen]; omega) (by omega) (by simp; omega) ?_
                     intro v' w' hown' hgr' hat')
        have ho5 : Own w' w.heap.size 9 1 encT v' (l ++ [t]) := by
          unfold Own
          rw [List.length_append, List.flatMap_append]
          exact hown'
        have HM5 := Lib.hid ((HM.out.alloc (.cells #[.string (tb t)] 9)).trans (Mod.ofGrown hgr') (fun z hz e => by have := (HO.out.lt z e).1; omega))
        have HO5 := Lib.hid ho5
        have hl5 : (l ++ [t]).length ≤ s.size + 1 := by simp; omega
        clear ho5 hown' hgr' hat'
        go_wp2_with fail
        go_roundw
        case rel => exact ⟨s.size + 1, s.size + 1, l ++ [t], by go_num, by go_num, hl5, HO5.out, HM5.out, .inr ⟨by omega, by omega, HFIN⟩⟩
        case measure => simp [RowKit.intOf]
      · have hez : ((q : Int) == (s.size : Int)) = false := by simp; omega
        have hez2 : ¬ (q : Int) = (s.size : Int) := by omega
        have hqs : q < s.size := by omega
        have hqs2 : (q : Int) < (s.size : Int) := by omega
        obtain ⟨c, hd, hc⟩ := str_at hqs
        by_cases hb : c = 32
        · subst hb
          have hfin : (l ++ [t]) ++ cutT 32 (s.data.toList.drop (q + 1)) = R := by
            obtain ⟨h1, h2⟩ := hrel.out
            have hcp := cut_piece 32 (s.data.toList.drop fr) (q - fr) (by rw [← HT.out]; exact h2) (.inr ⟨_, by rw [HDD.out]; exact hd⟩)
            rw [HDD.out, hd, ← HT.out] at hcp
            rw [← h1, hcp, List.append_assoc]
            rfl
          have HFIN := Lib.hid hfin
          clear hrel hfin hd
          go_wp2_with (at_builtin
                       refine wpList_append_any _ rfl (.tmp 22) (.tmp 27) _ rfl w.heap.size 9 i0 _ 1 16 Tryd.underlying39 hi0 hz0 hz1 hz2 rfl (by omega) (.slice Ao l.length co) l.length (l.flatMap encT) rfl (own_mod ((Mod.refl (fun _ => False) wr).alloc _) HO.out (fun _ _ e => e)) _ (some ⟨wr.heap.size, 0, none⟩) 1 1 [.string (tb t)] rfl (Reads.of_own (litOwn (w := wr) (n := wr.heap.size) 9 #[.string (tb t)] 1 rfl (Nat.zero_le _) (by decide) rfl)) (fun y hy => by simp at hy; rw [hy]; rfl) (by simp only [maxLen]; omega) (by omega) (by simp; omega) ?_
                       intro v' w' hown' hgr' hat')
          have ho5 : Own w' w.heap.size 9 1 encT v' (l ++ [t]) := by
            unfold Own
            rw [List.length_append, List.flatMap_append]
            exact hown'
          have HM5 := Lib.hid ((HM.out.alloc (.cells #[.string (tb t)] 9)).trans (Mod.ofGrown hgr') (fun z hz e => by have := (HO.out.lt z e).1; omega))
          have HO5 := Lib.hid ho5
          have hl5 : (l ++ [t]).length ≤ q + 1 := by simp; omega
          clear ho5 hown' hgr' hat'
          go_wp2_with fail
          go_roundw
          case rel => exact ⟨q + 1, q + 1, l ++ [t], by go_num, by go_num, hl5, HO5.out, HM5.out, .inl ⟨by omega, by omega, Lib.hid ⟨HFIN.out, by simp⟩⟩⟩
          case measure => simp [RowKit.intOf]; omega
        · have hcb := c.toNat_lt
          have hbz : ((c.toNat : Int) == 32) = false := by
            simp only [beq_eq_false_iff_ne, ne_eq]
            intro e
            exact hb (by rw [← u8_of c, show c.toNat = 32 by omega]; rfl)
          have hbz2 : ¬ (c.toNat : Int) = 32 := by simpa using hbz
          have hre : Hid (l ++ cutT 32 (s.data.toList.drop fr) = R ∧ ∀ c ∈ (s.data.toList.drop fr).take (q + 1 - fr), c ≠ 32) := by
            obtain ⟨h1, h2⟩ := hrel.out
            refine Lib.hid ⟨h1, fun c' hc' => ?_⟩
            have hg : (s.data.toList.drop fr)[q - fr]? = some c := by
              rw [List.getElem?_drop, show fr + (q - fr) = q by omega, ← List.head?_drop, hd]
              rfl
            rw [show q + 1 - fr = (q - fr) + 1 by omega, take_snoc hg, ← HT.out] at hc'
            rcases List.mem_append.1 hc' with h | h
            · exact h2 c' h
            · simp only [List.mem_singleton] at h
              rw [h]
              exact hb
          have HO1 := Lib.hid (show Own wr w.heap.size 9 1 encT (.slice Ao l.length co) l from HO.out)
          clear hrel hd
          go_wp2_with fail
          go_roundw
          case rel => exact ⟨q + 1, fr, l, by go_num, rfl, by omega, HO1.out, HM.out, .inl ⟨by omega, by omega, hre⟩⟩
          case measure => simp [RowKit.intOf]; omega
    · have hqz : ¬ ((s.size + 1 : Nat) : Int) ≤ (s.size : Int) := by omega
      have hqz' : decide (((s.size + 1 : Nat) : Int) ≤ (s.size : Int)) = false := by simp; omega
      generalize hq1 : ((s.size + 1 : Nat) : Int) = q1 at *
      have hlR := hrel.out
      have HO := Lib.hid ho
      have HM := Lib.hid hm
      clear ho hm hrel
      go_wp2_with fail
      go_ret
      rw [← hlR]
      exact ⟨⟨_, rfl, HO.out⟩, HM.out⟩
end Go.Proofs.YtpnicodjjbincaaDoor
