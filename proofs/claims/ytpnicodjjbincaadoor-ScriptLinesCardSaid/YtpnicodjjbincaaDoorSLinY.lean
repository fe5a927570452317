/- The walk of ScriptLines: the lines are put together, cut, and met again. -/
import Derived.Test.YtpnicodjjbincaaDoorSLinX
import Derived.Deep.LoopGhost
namespace Go.Proofs.YtpnicodjjbincaaDoor
open Go.RowKit
set_option linter.unusedVariables false
set_option maxHeartbeats 8000000
set_option maxRecDepth 100000
theorem walk_in (v : Value) (l : List Tx) (ex big : Int) (w : World) (E : Env w) (h : InL w v l) (c1 : ¬ ex < 0) (c2 : ¬ 10100 < ex) (c3 : ¬ big < 0) (c4 : ¬ 300000 < big) :
    Calls Tryd.prog 5 #[v, .int .i64 ex, .int .i64 big] w fun e w' => e = .returned (.bool true) ∧ Mod (fun _ => False) w w' := by
  obtain ⟨i0, hi0, hz0, hz1, hz2⟩ := info_parts byte_info
  obtain ⟨hh, hsz, hl63⟩ := h
  obtain ⟨A, cap, rfl, hcap⟩ := hh.form
  have HE := Lib.hid E
  have HH := Lib.hid hh
  have HV := Lib.hid hsz
  have HL := Lib.hid hl63
  have d1 : decide (ex < 0) = false := by simpa using c1
  have d2 : decide ((10100 : Int) < ex) = false := by simpa using c2
  have d3 : decide (big < 0) = false := by simpa using c3
  have d4 : decide ((300000 : Int) < big) = false := by simpa using c4
  generalize hn : l.length = L at *
  have HN := Lib.hid hn
  clear hn E hh hsz hcap
  go_enter Tryd.func5, Tryd.ntmps5
  go_wp2_with fail
  go_loopw [7, 8] (fun s i wr => ∃ (q : Nat) (nn : Int), i = .int .i64 q ∧ s = .int .i64 nn ∧ q ≤ L ∧ 0 ≤ nn ∧ nn ≤ 1099511627776 ∧ (500 < nn ∨ Hid (nn = ((joinT (l.take q)).length : Nat))) ∧ Mod (fun _ => False) w wr) (fun _ i _ => L - (intOf i).toNat)
  case atStart => exact ⟨0, 0, rfl, rfl, by omega, by omega, by omega, .inr (Lib.hid rfl), Mod.refl _ _⟩
  case round =>
    obtain ⟨q, nn, rfl, rfl, hq, hqn, hnb, hj, hm⟩ := hrel
    have HJ := Lib.hid hj
    clear hj
    by_cases hqL : q < L
    · have hqz : (q : Int) < (L : Int) := by omega
      by_cases hnn : nn ≤ 500
      · have hqx : q < l.length := by rw [HN.out]; exact hqL
        have hs? := List.getElem?_eq_getElem hqx
        have hsz := HV.out _ (List.getElem_mem hqx)
        have hjs := join_snoc hs?
        obtain ⟨g, off, rfl, _, c0⟩ := (HH.out.later hm (Nat.le_refl _)).at_ encT_len hs?
        generalize l[q]'hqx = t at *
        have c0 := c0 0 (by decide)
        simp only [encT, Nat.mul_one, Nat.add_zero, List.getElem?_cons_zero] at c0
        have hsz1 : ((tb t).size : Int) ≤ 9223372036854775807 := by rw [tb_size]; omega
        have hlit : Own (wr.alloc (.cells #[.int .i64 ((tb t).size : Int), .int .i64 1] 3)) 0 3 1 encI (.slice (some ⟨wr.heap.size, 0, none⟩) 2 2) [((tb t).size : Int), 1] := World.ownsRow_lit (base := 0) (size := 1) (e := 3) wr #[.int .i64 ((tb t).size : Int), .int .i64 1] 2 (Nat.zero_le _) (by decide) rfl
        have hsum := sumW nn ((tb t).size : Int) _ _ _ hlit.has hqn (by omega) (by omega) hsz1
        have HSUM := Lib.hid hsum
        have HM := Lib.hid hm
        have HJS := Lib.hid hjs
        clear hsum hlit hm hs? hsz hjs
        go_wp2_with fail
        refine HSUM.out.mono ?_
        rintro e w5 ⟨⟨r, rfl, hr⟩, rfl⟩
        have HR := Lib.hid hr
        clear hr
        have hnew : 0 ≤ r ∧ r ≤ 1099511627776 ∧ (500 < r ∨ Hid (r = ((joinT (l.take (q + 1))).length : Nat))) := by
          rcases HR.out with ⟨e1, e2⟩ | e1
          · refine ⟨by omega, e2, .inr (Lib.hid ?_)⟩
            rcases HJ.out with e3 | e3
            · omega
            · rw [HJS.out, e1, e3.out, tb_size]
              simp
              omega
          · exact ⟨by omega, by omega, .inl (by omega)⟩
        have HNW := Lib.hid hnew
        clear hnew
        go_wp2_with fail
        go_roundw
        case rel => exact ⟨q + 1, r, by go_num, rfl, by omega, HNW.out.1, HNW.out.2.1, HNW.out.2.2, HM.out.alloc _⟩
        case measure => simp [intOf]; omega
      · have hnz : ¬ nn ≤ (500 : Int) := hnn
        have hnz2 : (500 : Int) < nn := by omega
        have HAW := Lib.hid (awakeW _ (HE.out.later hm))
        have HM := Lib.hid hm
        clear hm
        go_wp2_with fail
        refine HAW.out.mono ?_
        rintro e w5 ⟨rfl, m5⟩
        have M5 := Lib.hid (HM.out.trans m5 (fun _ _ e => e))
        clear m5
        go_wp2_with fail
        go_ret
        exact ⟨rfl, M5.out⟩
    · obtain rfl : q = L := by omega
      have hqz : ¬ (q : Int) < (q : Int) := by omega
      by_cases hnn : nn ≤ 500
      · have hnz2 : ¬ (500 : Int) < nn := by omega
        have hjl : (joinT l).length ≤ 500 := by
          rcases HJ.out with e3 | e3
          · omega
          · have := e3.out
            rw [List.take_of_length_le (by rw [HN.out]; exact Nat.le_refl _)] at this
            omega
        have HE1 := Lib.hid (HE.out.later hm)
        have HH1 := Lib.hid (HH.out.later hm (Nat.le_refl _))
        have hwsz := hm.size
        have HM := Lib.hid hm
        clear hm HJ
        go_wp2_with fail
        generalize wr = w1 at *
        go_loopg [9, 10] (q) (fun gk s i wx => ∃ k : Nat, gk + k = q ∧ i = .int .i64 k ∧ s = .string (tb (joinT (l.take k))) ∧ Hid (∀ t ∈ l.take k, ∀ c ∈ t, c ≠ 10) ∧ wx = w1)
        case atStart => exact ⟨0, by omega, rfl, rfl, Lib.hid (fun t h => by simp at h), rfl⟩
        case round =>
          obtain ⟨k, hgk, rfl, rfl, hnl, hwx⟩ := hrel
          subst hwx
          obtain ⟨gout, rfl⟩ : ∃ n : Nat, n = gk := ⟨_, rfl⟩
          by_cases hk : k < q
          · have hkz : (k : Int) < (q : Int) := by omega
            have hkx : k < l.length := by rw [HN.out]; exact hk
            have hs? := List.getElem?_eq_getElem hkx
            have hjs := join_snoc hs?
            have hja := join_at hs?
            have hjk := join_size (l := l) (k := k)
            have htk := take_snoc hs?
            obtain ⟨g, off, rfl, _, c0⟩ := HH1.out.at_ encT_len hs?
            generalize l[k]'hkx = t at *
            have c0 := c0 0 (by decide)
            simp only [encT, Nat.mul_one, Nat.add_zero, List.getElem?_cons_zero] at c0
            have htz := tb_size t
            generalize hST : joinT (l.take k) = st at *
            have HJS := Lib.hid hjs
            have HTK := Lib.hid htk
            have HNL := Lib.hid hnl.out
            clear hs? hjs htk hnl hST
            go_wp2_with fail
            go_loopg [11] ((tb t).size) (fun gj i wi => ∃ j : Nat, gj + j = (tb t).size ∧ i = .int .i64 j ∧ Hid (∀ c ∈ t.take j, c ≠ 10) ∧ wi = wr)
            case atStart => exact ⟨0, by omega, rfl, Lib.hid (fun c h => by simp at h), rfl⟩
            case round =>
              obtain ⟨j, hgk2, rfl, hnc, hwi⟩ := hrel
              subst hwi
              by_cases hjt : j < (tb t).size
              · have hjz : (j : Int) < ((tb t).size : Int) := by omega
                obtain ⟨c, hd, hc⟩ := str_at hjt
                rw [tb_data] at hd
                by_cases hb : c = 10
                · subst hb
                  have HAW := Lib.hid (awakeW _ HE1.out)
                  clear hd
                  go_wp2_with fail
                  refine HAW.out.mono ?_
                  rintro e w5 ⟨rfl, m5⟩
                  have M5 := Lib.hid (HM.out.trans m5 (fun _ _ e => e))
                  clear m5
                  go_wp2_with fail
                  go_ret
                  exact ⟨rfl, M5.out⟩
                · have hcb := c.toNat_lt
                  have hbz : ((c.toNat : Int) == 10) = false := by
                    simp only [beq_eq_false_iff_ne, ne_eq]
                    intro e
                    exact hb (by rw [← u8_of c, show c.toNat = 10 by omega]; rfl)
                  have hbz2 : ¬ (c.toNat : Int) = 10 := by simpa using hbz
                  have hnc2 : ∀ c ∈ t.take (j + 1), c ≠ 10 := fun c' hc' => by
                    have hg : t[j]? = some c := by rw [← List.head?_drop, hd]; rfl
                    rw [take_snoc hg] at hc'
                    rcases List.mem_append.1 hc' with h | h
                    · exact hnc.out c' h
                    · simp only [List.mem_singleton] at h
                      rw [h]
                      exact hb
                  have HNC := Lib.hid hnc2
                  clear hd hnc hnc2
                  go_wp2_with fail
                  go_roundg (gk - 1)
                  case measure => omega
                  case rel => exact ⟨j + 1, by omega, by go_num, HNC, rfl⟩
              · have hjz : ¬ (j : Int) < ((tb t).size : Int) := by omega
                have hall : ∀ t' ∈ l.take (k + 1), ∀ c ∈ t', c ≠ 10 := fun t' ht' => by
                  rw [HTK.out] at ht'
                  rcases List.mem_append.1 ht' with h | h
                  · exact HNL.out t' h
                  · simp only [List.mem_singleton] at h
                    rw [h]
                    intro c' hc'
                    exact hnc.out c' (by rw [List.take_of_length_le (by omega)]; exact hc')
                have HALL := Lib.hid hall
                have q1 : ¬ 9223372036854775807 < (tb st).size + (tb t).size := by rw [tb_size, tb_size]; omega
                have q2 : ¬ 9223372036854775807 < (tb st).size + (tb t).size + 1 := by rw [tb_size, tb_size]; omega
                have q3 : ¬ 9223372036854775807 < (tb st ++ tb t).size + 1 := by rw [tb_append, tb_size, List.length_append]; omega
                clear hall hnc
                go_wp2_with fail
                go_roundg (gout - 1)
                case measure => omega
                case rel =>
                  refine ⟨k + 1, by omega, by go_num, ?_, HALL, rfl⟩
                  rw [HJS.out, ← tb_append, ← tb_append]
                  rfl
          · obtain rfl : k = q := by omega
            have hkz : ¬ (k : Int) < (k : Int) := by omega
            have hta : l.take k = l := List.take_of_length_le (by rw [HN.out]; exact Nat.le_refl _)
            rw [hta] at hnl
            rw [hta]
            have HNL := Lib.hid hnl.out
            clear hta hnl
            obtain ⟨v2, w2, hcv, ho2, m2⟩ := bytesM (src := 9) (dst := 22) (e := 5) Tryd.underlying9 Tryd.underlying22 Tryd.underlying5 (tb (joinT l)) (by rw [tb_size]; omega) wr
            generalize wr = w1 at *
            rw [tb_data, tb_size] at ho2
            generalize hST : joinT l = st at *
            have HST := Lib.hid hST
            have HO2 := Lib.hid (show ownsRowM w2 w1.heap.size 5 1 v2 st.length (st.flatMap encB) from ho2)
            have HM2 := Lib.hid m2
            have hw2 := m2.size
            clear ho2 m2 hST
            go_wp2_with fail
            clear hcv
            go_loopw [12, 13] (fun b i wr => ∃ q : Nat, i = .int .i64 q ∧ (q : Int) ≤ ex ∧ ownsRowM wr w1.heap.size 5 1 b (st.length + q) ((st ++ List.replicate q 10).flatMap encB) ∧ Mod (fun _ => False) w1 wr) (fun _ i _ => ex.toNat - (intOf i).toNat)
            case atStart => exact ⟨0, rfl, by omega, by simpa using HO2.out, HM2.out⟩
            case round =>
              obtain ⟨q, rfl, hq, hor, hmr⟩ := hrel
              obtain ⟨Ar, cr, rfl⟩ := hor.form
              have HOR := Lib.hid hor
              have HMR := Lib.hid hmr
              have hwr := hmr.size
              clear hor hmr
              by_cases hqe : (q : Int) < ex
              · have hlt := fun z (e : (Value.slice Ar (st.length + q) cr).ownBlock = some z) => (HOR.out.lt z e).1
                go_wp2_with (at_builtin
                             refine wpList_append_ownM _ rfl (.tmp 92) (.tmp 93) _ rfl w1.heap.size 5 i0 _ 1 1 Tryd.underlying22 hi0 hz0 hz1 hz2 rfl (by omega) (.slice Ar (st.length + q) cr) (st.length + q) ((st ++ List.replicate q 10).flatMap encB) rfl (HOR.out.mod ((Mod.refl (fun _ => False) wr).alloc _) (fun _ _ e => e)) ⟨wr.heap.size, 0, none⟩ 1 1 [.int .u8 10] rfl rfl (cell_one_new _ _ _) (fun y hy => by simp at hy; rw [hy]; rfl) (by simp only [maxLen]; omega) (by omega) (by simp; omega) ?_
                             intro v' w' hown' hgr')
                have ho5 : ownsRowM w' w1.heap.size 5 1 v' (st.length + (q + 1)) ((st ++ List.replicate (q + 1) 10).flatMap encB) := by
                  rw [List.replicate_succ', ← List.append_assoc, List.flatMap_append, ← Nat.add_assoc]
                  exact hown'
                have HM5 := Lib.hid ((HMR.out.alloc (.cells #[.int .u8 10] 5)).trans (Mod.ofGrown hgr') (fun z hz e => by have := hlt z e; omega))
                have HO5 := Lib.hid ho5
                clear ho5 hown' hgr'
                go_wp2_with fail
                go_roundw
                case rel => exact ⟨q + 1, by go_num, by omega, HO5.out, HM5.out⟩
                case measure => simp [intOf]; omega
              · obtain rfl : ex = (q : Int) := by omega
                have HBD := Lib.hid (show (st ++ List.replicate q 10).length ≤ 11000 by simp; omega)
                obtain ⟨t1, ht1⟩ : ∃ t1, st ++ List.replicate q 10 = t1 := ⟨_, rfl⟩
                have hlt1 : st.length + q = t1.length := by rw [← ht1]; simp
                have HT1 := Lib.hid ht1
                rw [ht1, hlt1] at HOR
                rw [hlt1]
                clear ht1 hlt1
                go_wp2_with fail
                go_loopw [12, 14] (fun b i wr2 => ∃ p : Nat, i = .int .i64 p ∧ (p : Int) ≤ big ∧ ownsRowM wr2 w1.heap.size 5 1 b (t1.length + p) ((t1 ++ List.replicate p 120).flatMap encB) ∧ Mod (fun _ => False) w1 wr2) (fun _ i _ => big.toNat - (intOf i).toNat)
                case atStart => exact ⟨0, rfl, by omega, by simpa using HOR.out, HMR.out⟩
                case round =>
                  obtain ⟨p, rfl, hp, hor2, hmr2⟩ := hrel
                  obtain ⟨A2, cr2, rfl⟩ := hor2.form
                  have HO3 := Lib.hid hor2
                  have HM3 := Lib.hid hmr2
                  have hwr2 := hmr2.size
                  have hbd : t1.length ≤ 11000 := by have := HBD.out; rw [HT1.out] at this; exact this
                  clear hor2 hmr2 hwr
                  by_cases hpe : (p : Int) < big
                  · have hlt := fun z (e : (Value.slice A2 (t1.length + p) cr2).ownBlock = some z) => (HO3.out.lt z e).1
                    go_wp2_with (at_builtin
                                 refine wpList_append_ownM _ rfl (.tmp 100) (.tmp 101) _ rfl w1.heap.size 5 i0 _ 1 1 Tryd.underlying22 hi0 hz0 hz1 hz2 rfl (by omega) (.slice A2 (t1.length + p) cr2) (t1.length + p) ((t1 ++ List.replicate p 120).flatMap encB) rfl (HO3.out.mod ((Mod.refl (fun _ => False) wr).alloc _) (fun _ _ e => e)) ⟨wr.heap.size, 0, none⟩ 1 1 [.int .u8 120] rfl rfl (cell_one_new _ _ _) (fun y hy => by simp at hy; rw [hy]; rfl) (by simp only [maxLen]; omega) (by omega) (by simp; omega) ?_
                                 intro v' w' hown' hgr')
                    have ho5 : ownsRowM w' w1.heap.size 5 1 v' (t1.length + (p + 1)) ((t1 ++ List.replicate (p + 1) 120).flatMap encB) := by
                      rw [List.replicate_succ', ← List.append_assoc, List.flatMap_append, ← Nat.add_assoc]
                      exact hown'
                    have HM5 := Lib.hid ((HM3.out.alloc (.cells #[.int .u8 120] 5)).trans (Mod.ofGrown hgr') (fun z hz e => by have := hlt z e; omega))
                    have HO5 := Lib.hid ho5
                    clear ho5 hown' hgr'
                    go_wp2_with fail
                    go_roundw
                    case rel => exact ⟨p + 1, by go_num, by omega, HO5.out, HM5.out⟩
                    case measure => simp [intOf]; omega
                  · obtain rfl : big = (p : Int) := by omega
                    obtain ⟨T, hT⟩ : ∃ T, t1 ++ List.replicate p 120 = T := ⟨_, rfl⟩
                    have hTl : t1.length + p = T.length := by rw [← hT]; simp
                    have hTT : T.length ≤ 311000 := by omega
                    rw [hT, hTl] at HO3
                    rw [hTl]
                    have HT := Lib.hid hT
                    have hlen := lines_len T
                    have hq1 := linesW T (by omega) wr (HE1.out.later HM3.out).maxl
                    have hq2 := fun w => linesRW (tb T) (by rw [tb_size]; omega) w
                    simp only [tb_data] at hq2
                    have hfacts : ((linP T).2 = 0 ∧ (linP T).1 = linesT T ∨ (linP T).2 = 2) ∧ (linP T).1.length ≤ 1000000 := by
                      unfold linP
                      split
                      · exact ⟨.inr rfl, Nat.zero_le _⟩
                      · exact ⟨.inl ⟨rfl, rfl⟩, by simp only; omega⟩
                    generalize linP T = P at *
                    obtain ⟨ls, er⟩ := P
                    simp only at hq1 hq2 hfacts
                    obtain ⟨hf1, hf2⟩ := hfacts
                    have HF1 := Lib.hid hf1
                    have HQ1 := Lib.hid hq1
                    have HQ2 := Lib.hid hq2
                    have HS := Lib.hid (ownsRowM.has wr (by omega) HO3.out)
                    have hst := run_strH (dst := 9) Tryd.underlying22 Tryd.underlying5 Tryd.underlying9 HS.out
                    clear hq1 hq2 hf1 hT hTl hlen
                    go_wp2_with fail
                    refine HQ1.out.mono ?_
                    rintro e w3 ⟨⟨x3, rfl, hx3⟩, m3⟩
                    have hst3 := run_strH (dst := 9) Tryd.underlying22 Tryd.underlying5 Tryd.underlying9 (HS.out.later m3 (Nat.le_refl _))
                    have HX3 := Lib.hid hx3
                    have HM4 := Lib.hid (HM3.out.trans m3 (fun _ _ e => e))
                    clear hst hx3 m3
                    go_wp2_with fail
                    refine (HQ2.out w3).mono ?_
                    rintro e w4 ⟨⟨y4, rfl, hy4⟩, m4⟩
                    have htx := textsW ls x3 y4 w4 hf2 ((HX3.out.later m4 (Nat.le_refl _)).more m4.size) hy4
                    have HTX := Lib.hid htx
                    have HX4 := Lib.hid ((HX3.out.later m4 (Nat.le_refl _)).more m4.size)
                    have HM5 := Lib.hid (HM4.out.trans m4 (fun _ _ e => e))
                    clear hst3 hy4 m4 htx
                    go_wp2_with fail
                    refine HTX.out.mono ?_
                    rintro e w5 ⟨rfl, m5⟩
                    have HX5 := Lib.hid ((HX4.out.later m5 (Nat.le_refl _)).more m5.size)
                    have HM6 := Lib.hid (HM5.out.trans m5 (fun _ _ e => e))
                    have HAW := Lib.hid (awakeW _ (HE1.out.later HM6.out))
                    have HMW := Lib.hid (HM.out.trans HM6.out (fun _ _ e => e))
                    clear m5
                    rcases HF1.out with ⟨rfl, hls⟩ | rfl
                    · by_cases hq0 : 0 < q
                      · have hqz : (0 : Int) < (q : Int) := by omega
                        have hqd : decide ((0 : Int) < (q : Int)) = true := by simpa using hqz
                        clear hls
                        go_wp2_with fail
                        refine HAW.out.mono ?_
                        rintro e w7 ⟨rfl, m7⟩
                        have HM7 := Lib.hid (HMW.out.trans m7 (fun _ _ e => e))
                        clear m7
                        go_wp2_with fail
                        go_ret
                        exact ⟨rfl, HM7.out⟩
                      · have hqz : ¬ (0 : Int) < (q : Int) := by omega
                        have hqd : decide ((0 : Int) < (q : Int)) = false := by simpa using hqz
                        by_cases hp0 : 0 < p
                        · have hpz : (0 : Int) < (p : Int) := by omega
                          have hpd : decide ((0 : Int) < (p : Int)) = true := by simpa using hpz
                          clear hls
                          go_wp2_with fail
                          refine HAW.out.mono ?_
                          rintro e w7 ⟨rfl, m7⟩
                          have HM7 := Lib.hid (HMW.out.trans m7 (fun _ _ e => e))
                          clear m7
                          go_wp2_with fail
                          go_ret
                          exact ⟨rfl, HM7.out⟩
                        · have hpz : ¬ (0 : Int) < (p : Int) := by omega
                          have hpd : decide ((0 : Int) < (p : Int)) = false := by simpa using hpz
                          obtain rfl : q = 0 := by omega
                          obtain rfl : p = 0 := by omega
                          have hll : ls = l := by
                            rw [hls, ← HT.out, ← HT1.out, ← HST.out]
                            simp only [List.replicate_zero, List.append_nil]
                            exact lines_join HNL.out
                          subst hll
                          have hs5 := HM6.out.size
                          have htx2 := textsW ls x3 _ w5 hf2 HX5.out ((HH1.out.later HM6.out hwsz).more (by omega))
                          have HTX2 := Lib.hid htx2
                          clear htx2 hls
                          go_wp2_with fail
                          refine HTX2.out.mono ?_
                          rintro e w6 ⟨rfl, m6⟩
                          have HAW2 := Lib.hid (awakeW _ (HE1.out.later (HM6.out.trans m6 (fun _ _ e => e))))
                          have HMW2 := Lib.hid (HMW.out.trans m6 (fun _ _ e => e))
                          clear m6
                          go_wp2_with fail
                          refine HAW2.out.mono ?_
                          rintro e w7 ⟨rfl, m7⟩
                          have HM7 := Lib.hid (HMW2.out.trans m7 (fun _ _ e => e))
                          clear m7
                          go_wp2_with fail
                          go_ret
                          exact ⟨rfl, HM7.out⟩
                    · go_wp2_with fail
                      refine HAW.out.mono ?_
                      rintro e w7 ⟨rfl, m7⟩
                      have HM7 := Lib.hid (HMW.out.trans m7 (fun _ _ e => e))
                      clear m7
                      go_wp2_with fail
                      go_ret
                      exact ⟨rfl, HM7.out⟩
      · have hnz : ¬ nn ≤ (500 : Int) := hnn
        have hnz2 : (500 : Int) < nn := by omega
        have HAW := Lib.hid (awakeW _ (HE.out.later hm))
        have HM := Lib.hid hm
        clear hm
        go_wp2_with fail
        refine HAW.out.mono ?_
        rintro e w5 ⟨rfl, m5⟩
        have M5 := Lib.hid (HM.out.trans m5 (fun _ _ e => e))
        clear m5
        go_wp2_with fail
        go_ret
        exact ⟨rfl, M5.out⟩
theorem walk_scriptLines {v : Value} (w : World) (E : Env w) (l : List Tx) (h : InL w v l) (ex : Int) (_ : (Lit.int .i64 ex).wf = true) (big : Int) (_ : (Lit.int .i64 big).wf = true) : Calls Tryd.prog 5 #[v, .int .i64 ex, .int .i64 big] w fun e w' => e = .returned (.bool true) ∧ Below w.heap.size w w' := by
  have hw : Calls Tryd.prog 5 #[v, .int .i64 ex, .int .i64 big] w fun e w' => e = .returned (.bool true) ∧ Mod (fun _ => False) w w' := by
    by_cases ho : ex < 0 ∨ 10100 < ex ∨ big < 0 ∨ 300000 < big
    · exact walk_out v ex big w E ho
    · exact walk_in v l ex big w E h (fun e => ho (.inl e)) (fun e => ho (.inr (.inl e))) (fun e => ho (.inr (.inr (.inl e)))) (fun e => ho (.inr (.inr (.inr e))))
  exact hw.mono fun e w' ⟨he, hm⟩ => ⟨he, hm.below⟩
end Go.Proofs.YtpnicodjjbincaaDoor
