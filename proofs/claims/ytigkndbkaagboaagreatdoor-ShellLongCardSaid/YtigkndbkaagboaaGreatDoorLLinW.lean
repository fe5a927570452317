/- Lines: the program's and the reference's contracts. -/
import Derived.Test.YtigkndbkaagboaaGreatDoorSLinP
import Derived.Test.YtigkndbkaagboaaGreatDoorLSplR
namespace Go.Proofs.YtigkndbkaagboaaGreatDoor
open Go.RowKit
set_option linter.unusedVariables false
set_option maxHeartbeats 4000000
set_option maxRecDepth 100000
theorem trimW (tx : Tx) (w : World) (hs : tx.length ≤ 1000000) :
    Calls Tryz.prog 105 #[.string (tb tx), .string (tb [10])] w fun e w' => e = .returned (.string (tb (trimT tx))) ∧ Mod (fun _ => False) w w' := by
  have h := Tryz.strings_TrimSuffix (tb tx) (tb [10]) w (by rw [tb_size]; omega)
  rw [tb_data, tb_data] at h
  refine h.mono ?_
  rintro e w' ⟨rfl, rfl⟩
  exact ⟨rfl, Mod.refl _ _⟩
theorem linesW (tx : Tx) (hs : tx.length ≤ 1000000) (w : World) (E : MaxL w) :
    Calls Tryz.prog 62 #[.string (tb tx)] w fun e w' => (∃ v, e = .returned (.tuple #[v, .int .i64 (linP tx).2]) ∧ Has w' w'.heap.size 1 encT v (linP tx).1) ∧ Mod (fun _ => False) w w' := by
  by_cases h0 : tx = []
  · subst h0
    obtain ⟨e1, e2⟩ := str_empty (s := tb []) (tb_data [])
    have hl : linP [] = ([], 0) := rfl
    rw [hl]
    go_enter Tryz.func62, Tryz.ntmps62
    go_wp2_with fail
    go_ret2
    exact ⟨⟨_, rfl, Has.nil⟩, Mod.refl _ _⟩
  · obtain ⟨e1, e2⟩ := str_some (s := tb tx) (by rw [tb_data]; exact h0)
    have hlt : linesT tx = cutT 10 (trimT tx) := if_neg h0
    have hll := lines_len tx
    have htl := trim_len tx
    obtain ⟨n, hn⟩ : ∃ n, n = (linesT tx).length := ⟨_, rfl⟩
    obtain ⟨r, hr⟩ : ∃ r, linP tx = r := ⟨_, rfl⟩
    rw [hr]
    unfold linP at hr
    have HR := Lib.hid hr
    have HLT := Lib.hid hlt
    have HN := Lib.hid hn
    rw [← hn] at hll
    clear hr hlt hn h0
    have htz := tb_size tx
    go_enter Tryz.func62, Tryz.ntmps62
    go_wp2_with fail
    refine (trimW tx w hs).mono ?_
    rintro e w1 ⟨rfl, m1⟩
    have HM1 := Lib.hid m1
    clear m1
    go_wp2_with fail
    refine (splitW (tb (trimT tx)) 10 w1 (by rw [tb_size]; omega) (E.later HM1.out)).mono ?_
    rintro e w2 ⟨⟨gl, rfl, ho2⟩, m2⟩
    rw [tb_data] at ho2 ⊢
    rw [← HLT.out] at ho2 ⊢
    rw [← HN.out]
    have ho2 : Own w2 w1.heap.size 9 1 encT (.slice (some ⟨gl, 0, none⟩) n n) (linesT tx) := by rw [HN.out]; exact ho2
    have HM2 := Lib.hid (HM1.out.trans m2 (fun _ _ e => e))
    have HO2 := Lib.hid ho2
    clear m2 ho2
    by_cases hb : 262144 < tx.length
    · have hz : (262144 : Int) < ((tb tx).size : Int) := by omega
      have hz' : decide ((262144 : Int) < ((tb tx).size : Int)) = true := by simpa using hz
      have hr := HR.out
      rw [if_pos (.inl hb)] at hr
      subst hr
      clear htz
      go_wp2_with fail
      go_ret2
      exact ⟨⟨_, rfl, Has.nil⟩, HM2.out⟩
    · have hz : ¬ (262144 : Int) < ((tb tx).size : Int) := by omega
      have hz' : decide ((262144 : Int) < ((tb tx).size : Int)) = false := by simpa using hz
      by_cases hc : 10000 < n
      · have hy : (10000 : Int) < (n : Int) := by omega
        have hy' : decide ((10000 : Int) < (n : Int)) = true := by simpa using hy
        have hr := HR.out
        rw [if_pos (.inr (by rw [← HN.out]; exact hc))] at hr
        subst hr
        clear htz
        go_wp2_with fail
        go_ret2
        exact ⟨⟨_, rfl, Has.nil⟩, HM2.out⟩
      · have hy : ¬ (10000 : Int) < (n : Int) := by omega
        have hy' : decide ((10000 : Int) < (n : Int)) = false := by simpa using hy
        have hr := HR.out
        rw [if_neg (fun e => e.elim hb (by rw [← HN.out]; exact hc))] at hr
        subst hr
        clear htz
        go_wp2_with fail
        go_ret2
        exact ⟨⟨_, rfl, HO2.out.has⟩, HM2.out⟩
theorem linesRW (s : ByteArray) (hs : s.size ≤ 1000000) (w : World) :
    Calls Tryz.prog 25 #[.string s] w fun e w' => (∃ v, e = .returned (.tuple #[v, .int .i64 (linP s.data.toList).2]) ∧ Has w' w'.heap.size 1 encT v (linP s.data.toList).1) ∧ Mod (fun _ => False) w w' := by
  obtain ⟨i0, hi0, hz0, hz1, hz2⟩ := info_parts str_info
  obtain ⟨r, hr⟩ : ∃ r, linP s.data.toList = r := ⟨_, rfl⟩
  rw [hr]
  unfold linP at hr
  rw [data_len] at hr
  have HR := Lib.hid hr
  clear hr
  by_cases hbig : 262144 < s.size
  · have hz : (262144 : Int) < (s.size : Int) := by omega
    have hr := HR.out
    rw [if_pos (.inl hbig)] at hr
    subst hr
    go_enter Tryz.func25, Tryz.ntmps25
    go_wp2_with fail
    go_ret2
    exact ⟨⟨_, rfl, Has.nil⟩, Mod.refl _ _⟩
  · have hz : ¬ (262144 : Int) < (s.size : Int) := by omega
    go_enter Tryz.func25, Tryz.ntmps25
    go_wp2_with fail
    go_loopw [4, 5, 6] (fun v f i wr => ∃ (q fr : Nat) (l : List Tx), i = .int .i64 q ∧ f = .int .i64 fr ∧ l.length ≤ q ∧ Own wr w.heap.size 9 1 encT v l ∧ Mod (fun _ => False) w wr ∧
        q ≤ s.size ∧ fr ≤ q ∧ Hid (l ++ cutT 10 (s.data.toList.drop fr) = cutT 10 s.data.toList ∧ ∀ c ∈ (s.data.toList.drop fr).take (q - fr), c ≠ 10)) (fun _ _ i _ => s.size + 1 - (RowKit.intOf i).toNat)
    case atStart => exact ⟨0, 0, [], rfl, rfl, by simp, Own.nil, Mod.refl _ _, by omega, by omega, Lib.hid ⟨rfl, by simp⟩⟩
    case round =>
      obtain ⟨q, fr, l, rfl, rfl, hlq, ho, hm, hq, hfr, hrel⟩ := hrel
      obtain ⟨Ao, co, rfl, hco, -⟩ := ho.form
      have hsm := hm.size
      by_cases hend : q = s.size
      · subst hend
        have hfin : l ++ [s.data.toList.drop fr] = cutT 10 s.data.toList := by
          obtain ⟨h1, h2⟩ := hrel.out
          rw [← h1, wordsT_one 10 _ (fun c hc => h2 c (by rw [List.take_of_length_le (by rw [List.length_drop, data_len]; omega)]; exact hc))]
        have hln := lines_cut hfin.symm
        by_cases he : fr < s.size
        · have hfz : (fr : Int) < (s.size : Int) := by omega
          have hne : s.data.toList.drop fr ≠ [] := fun e => by
            have := congrArg List.length e
            rw [List.length_drop, data_len] at this
            simp at this
            omega
          rw [if_neg hne] at hln
          have hsl : ∀ w, (Instr.slice 9 (.string s) (some (.int .i64 (fr : Int))) none none).run Tryz.prog w = .ok (.string (tb (s.data.toList.drop fr))) w := fun w => by
            rw [run_slice_string_from_if w _ s .i64 fr Tryz.underlying9, if_pos ⟨by omega, by omega⟩]
            have : s.extract ((fr : Int)).toNat s.size = tb (s.data.toList.drop fr) := by
              apply data_inj
              rw [tb_data, Lib.extract_data]
              show (s.data.toList.drop fr).take (s.size - fr) = _
              exact List.take_of_length_le (by rw [List.length_drop, data_len]; omega)
            rw [this]
          generalize ht : s.data.toList.drop fr = t at *
          have HLN := Lib.hid hln
          have HO := Lib.hid (show wr.ownsRow w.heap.size 9 1 (.slice Ao l.length co) l.length (l.flatMap encT) from ho)
          have HM := Lib.hid hm
          clear hln hfin hrel ho hm ht
          go_wp2_with (at_builtin
                       refine wpList_append_any _ rfl (.tmp 33) (.tmp 37) _ rfl w.heap.size 9 i0 _ 1 16 Tryz.underlying60 hi0 hz0 hz1 hz2 rfl (by omega) (.slice Ao l.length co) l.length (l.flatMap encT) rfl (own_mod ((Mod.refl (fun _ => False) wr).alloc _) HO.out (fun _ _ e => e)) _ (some ⟨wr.heap.size, 0, none⟩) 1 1 [.string (tb t)] rfl (Reads.of_own (litOwn (w := wr) (n := wr.heap.size) 9 #[.string (tb t)] 1 rfl (Nat.zero_le _) (by decide) rfl)) (fun y hy => by simp at hy; rw [hy]; rfl) (by simp only [maxLen]; omega) (by omega) (by simp; omega) ?_
                       intro v' w' hown' hgr' hat')
          have ho5 : Own w' w.heap.size 9 1 encT v' (l ++ [t]) := by
            unfold Own
            rw [List.length_append, List.flatMap_append]
            exact hown'
          have HM5 := Lib.hid ((HM.out.alloc (.cells #[.string (tb t)] 9)).trans (Mod.ofGrown hgr') (fun z hz e => by have := (HO.out.lt z e).1; omega))
          obtain ⟨A5, c5, rfl, hc5, -⟩ := ho5.form
          have HO5 := Lib.hid ho5
          have hr := HR.out
          rw [HLN.out] at hr
          clear ho5 hown' hgr' hat'
          have hn5 : (l ++ [t]).length ≤ s.size + 1 := by simp; omega
          generalize hn : (l ++ [t]).length = n at *
          by_cases hc : 10000 < n
          · have hy : (10000 : Int) < (n : Int) := by omega
            rw [if_pos (.inr hc)] at hr
            subst hr
            clear hn hc hn5 HR HLN hne hsl
            go_wp2
            rw [run_len_slice (h := Tryz.underlying60)]
            go_simp
            go_wp2
            go_ret2
            exact ⟨⟨_, rfl, Has.nil⟩, HM5.out⟩
          · have hy : ¬ (10000 : Int) < (n : Int) := by omega
            rw [if_neg (fun e => e.elim hbig hc)] at hr
            subst hr
            clear hn
            go_wp2_with fail
            go_ret2
            exact ⟨⟨_, rfl, HO5.out.has⟩, HM5.out⟩
        · have hfz : ¬ (fr : Int) < (s.size : Int) := by omega
          have hne : s.data.toList.drop fr = [] := str_end (by omega)
          rw [if_pos hne] at hln
          have hr := HR.out
          rw [hln] at hr
          have HO := Lib.hid ho
          have HM := Lib.hid hm
          clear hln hfin hrel ho hm
          generalize hn : l.length = n at *
          by_cases hc : 10000 < n
          · have hy : (10000 : Int) < (n : Int) := by omega
            rw [if_pos (.inr hc)] at hr
            subst hr
            clear hn
            go_wp2_with fail
            go_ret2
            exact ⟨⟨_, rfl, Has.nil⟩, HM.out⟩
          · have hy : ¬ (10000 : Int) < (n : Int) := by omega
            rw [if_neg (fun e => e.elim hbig hc)] at hr
            subst hr
            clear hn
            go_wp2_with fail
            go_ret2
            exact ⟨⟨_, rfl, HO.out.has⟩, HM.out⟩
      · have hqs : q < s.size := by omega
        have hqs2 : (q : Int) < (s.size : Int) := by omega
        have w1 : IntKind.i64.wrap ((q : Int) + 1) = (q : Int) + 1 := by rw [IntKind.wrap_i64]; omega
        have hsl := slice_tb s fr q hfr hq
        obtain ⟨t, ht⟩ : ∃ t, t = (s.data.toList.drop fr).take (q - fr) := ⟨_, rfl⟩
        rw [← ht] at hsl hrel
        have HT := Lib.hid ht
        have HO := Lib.hid (show wr.ownsRow w.heap.size 9 1 (.slice Ao l.length co) l.length (l.flatMap encT) from ho)
        have HM := Lib.hid hm
        have hdd : (s.data.toList.drop fr).drop (q - fr) = s.data.toList.drop q := by rw [List.drop_drop]; congr 1; omega
        have HDD := Lib.hid hdd
        clear ht ho hm hdd
        obtain ⟨c, hd, hc⟩ := str_at hqs
        by_cases hb : c = 10
        · subst hb
          have hfin : (l ++ [t]) ++ cutT 10 (s.data.toList.drop (q + 1)) = cutT 10 s.data.toList := by
            obtain ⟨h1, h2⟩ := hrel.out
            have hcp := cut_piece 10 (s.data.toList.drop fr) (q - fr) (by rw [← HT.out]; exact h2) (.inr ⟨_, by rw [HDD.out]; exact hd⟩)
            rw [HDD.out, hd, ← HT.out] at hcp
            rw [← h1, hcp, List.append_assoc]
            rfl
          have HFIN := Lib.hid hfin
          clear hrel hfin hd
          go_wp2_with (at_builtin
                       refine wpList_append_any _ rfl (.tmp 20) (.tmp 25) _ rfl w.heap.size 9 i0 _ 1 16 Tryz.underlying60 hi0 hz0 hz1 hz2 rfl (by omega) (.slice Ao l.length co) l.length (l.flatMap encT) rfl (own_mod ((Mod.refl (fun _ => False) wr).alloc _) HO.out (fun _ _ e => e)) _ (some ⟨wr.heap.size, 0, none⟩) 1 1 [.string (tb t)] rfl (Reads.of_own (litOwn (w := wr) (n := wr.heap.size) 9 #[.string (tb t)] 1 rfl (Nat.zero_le _) (by decide) rfl)) (fun y hy => by simp at hy; rw [hy]; rfl) (by simp only [maxLen]; omega) (by omega) (by simp; omega) ?_
                       intro v' w' hown' hgr' hat')
          have ho5 : Own w' w.heap.size 9 1 encT v' (l ++ [t]) := by
            unfold Own
            rw [List.length_append, List.flatMap_append]
            exact hown'
          have HM5 := Lib.hid ((HM.out.alloc (.cells #[.string (tb t)] 9)).trans (Mod.ofGrown hgr') (fun z hz e => by have := (HO.out.lt z e).1; omega))
          have HO5 := Lib.hid ho5
          have hl5 : (l ++ [t]).length ≤ q + 1 := by simp; omega
          clear ho5 hown' hgr' hat'
          go_wp2_with fail
          go_roundw
          case rel => exact ⟨q + 1, q + 1, l ++ [t], by go_num, by go_num, hl5, HO5.out, HM5.out, by omega, by omega, Lib.hid ⟨HFIN.out, by simp⟩⟩
          case measure => simp [RowKit.intOf]; omega
        · have hcb := c.toNat_lt
          have hbz : ((c.toNat : Int) == 10) = false := by
            simp only [beq_eq_false_iff_ne, ne_eq]
            intro e
            exact hb (by rw [← u8_of c, show c.toNat = 10 by omega]; rfl)
          have hbz2 : ¬ (c.toNat : Int) = 10 := by simpa using hbz
          have hre : Hid (l ++ cutT 10 (s.data.toList.drop fr) = cutT 10 s.data.toList ∧ ∀ c ∈ (s.data.toList.drop fr).take (q + 1 - fr), c ≠ 10) := by
            obtain ⟨h1, h2⟩ := hrel.out
            refine Lib.hid ⟨h1, fun c' hc' => ?_⟩
            have hg : (s.data.toList.drop fr)[q - fr]? = some c := by
              rw [List.getElem?_drop, show fr + (q - fr) = q by omega, ← List.head?_drop, hd]
              rfl
            rw [show q + 1 - fr = (q - fr) + 1 by omega, take_snocT hg, ← HT.out] at hc'
            rcases List.mem_append.1 hc' with h | h
            · exact h2 c' h
            · simp only [List.mem_singleton] at h
              rw [h]
              exact hb
          have HO1 := Lib.hid (show Own wr w.heap.size 9 1 encT (.slice Ao l.length co) l from HO.out)
          clear hrel hd
          go_wp2_with fail
          go_roundw
          case rel => exact ⟨q + 1, fr, l, by go_num, rfl, by omega, HO1.out, HM.out, by omega, by omega, hre⟩
          case measure => simp [RowKit.intOf]; omega
end Go.Proofs.YtigkndbkaagboaaGreatDoor
