/- script.Config's contract. -/
import Derived.Test.YtpnicodjjbincaaDoorScfT
import Derived.Test.YtpnicodjjbincaaDoorSPrsW
namespace Go.Proofs.YtpnicodjjbincaaDoor
open Go.RowKit
set_option linter.unusedVariables false
set_option maxHeartbeats 8000000
set_option maxRecDepth 100000
theorem uintM_le (M : Nat) : ∀ (l : Tx) (acc u : Nat), acc ≤ M → Lib.parseUintM M acc l = .ok u → u ≤ M
  | [], acc, u, h, e => by
    simp only [Lib.parseUintM] at e
    injection e with e
    omega
  | c :: r, acc, u, h, e => by
    unfold Lib.parseUintM at e
    split at e
    · split at e
      · cases e
      · split at e
        · cases e
        · exact uintM_le M r _ u (by omega) e
    · cases e
theorem pU_bd (t : Tx) : 0 ≤ pU t ∧ pU t ≤ 18446744073709551615 := by
  unfold pU
  split
  · rename_i u h
    unfold Lib.parseUintB at h
    split at h
    · cases h
    · have := uintM_le (2 ^ 64 - 1) t 0 u (Nat.zero_le _) h
      omega
  · omega
  · omega
theorem uintW (s : ByteArray) (hs : s.size ≤ 1000000) (w : World) (E : Env w) :
    Calls Tryd.prog 41 #[.string s, .int .i64 10, .int .i64 64] w fun e w' => (∃ err, e = .returned (.tuple #[.int .u64 (pU s.data.toList), err])) ∧ Mod (fun _ => False) w w' := by
  unfold pU
  obtain ⟨t1, p1, h3⟩ := E.syn
  obtain ⟨t2, p2, h4⟩ := E.ran
  rcases h : Lib.parseUintB 64 s.data.toList with v | _ | _
  · refine (Tryd.strconv_ParseUint_10_at64_ok s (by omega) v h w).mono ?_
    rintro e w' ⟨rfl, rfl | rfl⟩
    · exact ⟨⟨_, rfl⟩, Mod.refl _ _⟩
    · exact ⟨⟨_, rfl⟩, Mod.ofBelow (Lib.bytesWorld_below _ _ _)⟩
  · refine (Tryd.strconv_ParseUint_10_at64_bad_var s (by omega) h t1 p1 w h3).mono ?_
    rintro e w' hx
    obtain ⟨N, rfl, h5, h6, h7⟩ := hx
    exact ⟨⟨_, rfl⟩, Mod.ofBelow h7⟩
  · refine (Tryd.strconv_ParseUint_10_at64_range_var s (by omega) h t2 p2 w h4).mono ?_
    rintro e w' hx
    obtain ⟨N, rfl, h5, h6, h7⟩ := hx
    exact ⟨⟨_, rfl⟩, Mod.ofBelow h7⟩
theorem take_more {α : Type} {l l' : List α} {q : Nat} {z : α} (h : l'.take q = l.take q) (hq : q < l'.length) (hz : l[q]? = some z) : (l'.set q z).take (q + 1) = l.take (q + 1) := by
  have h1 : (l'.set q z)[q]? = some z := by rw [List.getElem?_set_self hq]
  rw [take_snoc h1, take_snoc hz, ← h, List.take_set_of_le (Nat.le_refl q)]
theorem configW (s : ByteArray) (hs : s.size ≤ 100000) (w : World) (E : Env w) :
    Calls Tryd.prog 19 #[.string s] w fun e w' => e = .returned (.tuple #[.agg (cfV (parC s.data.toList).1.1 (parC s.data.toList).1.2), .int .i64 (parC s.data.toList).2]) ∧ Mod (fun _ => False) w w' := by
  obtain ⟨tx, rfl⟩ : ∃ tx, s = tb tx := ⟨s.data.toList, (tb_of s).symm⟩
  rw [tb_data]
  rw [tb_size] at hs
  generalize hR : parC tx = R
  have HR := Lib.hid hR
  clear hR
  have HE := Lib.hid E
  have hm1 := (Mod.refl (fun _ => False) w).alloc (.cells #[.int .i64 0, .int .i64 0, .int .i64 0, .int .i64 0, .int .i64 0, .int .i64 0, .int .i64 0, .int .i64 0, .int .i64 0, .int .i64 0, .int .i64 0, .int .i64 0, .int .i64 0, .int .u64 0] 49)
  have HB1 := Lib.hid (show Blk _ w.heap.size 49 (cfV zeroL 0) from Blk.new w 49 #[.int .i64 0, .int .i64 0, .int .i64 0, .int .i64 0, .int .i64 0, .int .i64 0, .int .i64 0, .int .i64 0, .int .i64 0, .int .i64 0, .int .i64 0, .int .i64 0, .int .i64 0, .int .u64 0])
  clear E
  go_enter Tryd.func19, Tryd.ntmps19
  go_wp2_with fail
  have hs1 : (w.alloc (.cells #[.int .i64 0, .int .i64 0, .int .i64 0, .int .i64 0, .int .i64 0, .int .i64 0, .int .i64 0, .int .i64 0, .int .i64 0, .int .i64 0, .int .i64 0, .int .i64 0, .int .i64 0, .int .u64 0] 49)).heap.size = w.heap.size + 1 := by simp
  generalize w.alloc (.cells #[.int .i64 0, .int .i64 0, .int .i64 0, .int .i64 0, .int .i64 0, .int .i64 0, .int .i64 0, .int .i64 0, .int .i64 0, .int .i64 0, .int .i64 0, .int .i64 0, .int .i64 0, .int .u64 0] 49) = w1 at *
  generalize hb2 : w.heap.size = b2 at *
  refine (splitW (tb tx) 32 w1 (by rw [tb_size]; omega) (HE.out.later hm1).maxl).mono ?_
  rintro e w2 ⟨⟨gl, rfl, ho2⟩, m2⟩
  rw [tb_data] at ho2 ⊢
  generalize hws : cutT 32 tx = ws at *
  have hwl : ws.length ≤ 100001 := by
    rw [← hws, wordsT_len]
    have := List.count_le_length (a := 32) (l := tx)
    omega
  have hwb : ∀ t ∈ ws, t.length ≤ 100000 := fun t ht => by
    have := wordsT_bound 32 tx t (by rw [hws]; exact ht)
    omega
  have hgl := ho2.lt gl rfl
  obtain ⟨nw, hnw⟩ : ∃ nw, nw = ws.length := ⟨_, rfl⟩
  rw [← hnw] at ho2 hwl ⊢
  have HWS := Lib.hid hws
  have HWB := Lib.hid hwb
  have HNW := Lib.hid hnw
  have HB2 := Lib.hid (HB1.out.mod m2 (fun e => e))
  have HM2 := Lib.hid (hm1.trans m2 (fun _ _ e => e))
  have HN := Lib.hid (numsW b2 w2)
  have hw2 := m2.size
  have HO2 := Lib.hid ho2
  clear hm1 HB1 m2 hws hwb hnw ho2
  go_wp2_with fail
  refine HN.out.mono ?_
  rintro e w3 ⟨rfl, hbp, m3⟩
  have HP3 := Lib.hid hbp
  have HB3 := Lib.hid (HB2.out.mod m3 (fun e => e))
  have HO3 := Lib.hid (HO2.out.later m3)
  have HM3 := Lib.hid (HM2.out.trans m3 (fun _ _ e => e))
  have hw3 := m3.size
  have hlt3 := hbp.lt
  generalize hbpn : w2.heap.size = bp at *
  clear HB2 HO2 HM2 HN hbp m3
  by_cases hn : nw = 15
  · subst hn
    have hwl15 : ws.length = 15 := HNW.out.symm
    have hpl : (parL ws).length = 13 := par_len hwl15
    go_wp2_with fail
    go_loopw [20] (fun i wr => ∃ (q : Nat) (l : List Int), i = .int .i64 q ∧ q ≤ 13 ∧ l.length = 13 ∧ Hid (l.take q = (parL ws).take q) ∧ Blk wr b2 49 (cfV l 0) ∧ Mod (fun i => i = b2) w3 wr) (fun i _ => 13 - (intOf i).toNat)
    case atStart => exact ⟨0, zeroL, rfl, by omega, rfl, Lib.hid rfl, HB3.out, Mod.refl _ _⟩
    case round =>
      obtain ⟨q, l, rfl, hq, hl, heq, hbr, hmr⟩ := hrel
      have HMW := Lib.hid (HM3.out.trans hmr (fun i hi e => by omega))
      have hwr := hmr.size
      by_cases hq13 : q < 13
      · have hqz : (q : Int) < 13 := by omega
        have hqz0 : (0 : Int) ≤ (q : Int) := by omega
        have hqw : IntKind.i64.wrap ((q : Int) + 1) = (q : Int) + 1 := by rw [IntKind.wrap_i64]; omega
        have c1 : wr.cell? ⟨bp, q, none⟩ = some (.pointer (some ⟨b2, q, none⟩)) := ((HP3.out.mod hmr (by omega)).cell q).trans (ptrs_at b2 q hq13)
        have hq1 : q + 1 < ws.length := by omega
        have ht? := List.getElem?_eq_getElem hq1
        have htb := HWB.out _ (List.getElem_mem hq1)
        have hpz : (parL ws)[q]? = some (atoiV (ws[q + 1]'hq1)) := by
          unfold parL
          rw [List.getElem?_map, List.getElem?_take, if_pos hq13, List.getElem?_drop, show 1 + q = q + 1 by omega, ht?]
          rfl
        have c2 : wr.cell? ⟨gl, q + 1, none⟩ = some (.string (tb (ws[q + 1]'hq1))) := by
          have h := (HO3.out.mod hmr (fun z e1 e2 => by have := Option.some.inj e1; simp only at this; omega)).cell encT_len ht? (j := 0) (by omega)
          simpa [encT] using h
        generalize ws[q + 1]'hq1 = t at *
        have hat := atoiW (tb t) (by rw [tb_size]; omega) wr (HE.out.later HMW.out)
        rw [tb_data] at hat
        have HAT := Lib.hid hat
        have HTM := Lib.hid (take_more heq.out (by omega) hpz)
        have HBR := Lib.hid hbr
        have HMR := Lib.hid hmr
        clear ht? hpz hat hbr hmr heq
        go_wp2_with fail
        refine HAT.out.mono ?_
        rintro e w5 ⟨⟨err, rfl⟩, m5⟩
        have hop := HBR.out.mod m5 (fun e => e)
        have c3 := (hop.cell q).trans (cfV_at l 0 q hq13)
        have f3 := hop.free q
        have hB7 : Blk (w5.setCell ⟨b2, q, none⟩ (.int .i64 (atoiV t))) b2 49 (cfV (l.set q (atoiV t)) 0) := by
          rw [← cfV_set hl 0 (atoiV t) q hq13]
          exact hop.set q _
        have HB7 := Lib.hid hB7
        have HM7 := Lib.hid ((HMR.out.trans m5 (fun _ _ e => e.elim)).setCell (p := ⟨b2, q, none⟩) (fun _ => rfl) (.int .i64 (atoiV t)))
        clear hop hB7 m5
        go_wp2_with fail
        go_roundw
        case rel => exact ⟨q + 1, l.set q (atoiV t), by go_num, by omega, by rw [List.length_set]; exact hl, HTM, HB7.out, HM7.out⟩
        case measure => simp [intOf]; omega
      · obtain rfl : q = 13 := by omega
        have hlp : l = parL ws := by
          have := heq.out
          rwa [List.take_of_length_le (by omega), List.take_of_length_le (by omega)] at this
        have h14 : 14 < ws.length := by omega
        have ht? := List.getElem?_eq_getElem h14
        have htb := HWB.out _ (List.getElem_mem h14)
        have hpm : parM ws = pU (ws[14]'h14) := by
          unfold parM
          rw [List.getD_eq_getElem?_getD, ht?]
          rfl
        have c2 : wr.cell? ⟨gl, 14, none⟩ = some (.string (tb (ws[14]'h14))) := by
          have h := (HO3.out.mod hmr (fun z e1 e2 => by have := Option.some.inj e1; simp only at this; omega)).cell encT_len ht? (j := 0) (by omega)
          simpa [encT] using h
        have hr := HR.out
        unfold parC at hr
        rw [HWS.out, ← hlp, hpm] at hr
        generalize ws[14]'h14 = t at *
        have hbd := pU_bd t
        have hat := uintW (tb t) (by rw [tb_size]; omega) wr (HE.out.later HMW.out)
        rw [tb_data] at hat
        generalize pU t = m at *
        have htc := fun w hp => textCW l m hl hbd w hp
        have HTC := Lib.hid htc
        have HRR := Lib.hid hr
        have HAT := Lib.hid hat
        have HBR := Lib.hid hbr
        have HMR := Lib.hid hmr
        clear ht? hpm hat hbr hmr heq hr htc hlp hpl
        go_wp2_with fail
        refine HAT.out.mono ?_
        rintro e w5 ⟨⟨err, rfl⟩, m5⟩
        have hop := HBR.out.mod m5 (fun e => e)
        have c3 := hop.cell 13
        have f3 := hop.free 13
        have HB7 := Lib.hid (show Blk (w5.setCell ⟨b2, 13, none⟩ (.int .u64 m)) b2 49 (cfV l m) from hop.set 13 _)
        have HM7 := Lib.hid (((HMR.out.trans m5 (fun _ _ e => e.elim)).setCell (p := ⟨b2, 13, none⟩) (fun _ => rfl) (.int .u64 m)))
        have HMW7 := Lib.hid (HM3.out.trans HM7.out (fun i hi e => by omega))
        clear hop m5
        go_upto_region 11 with fail
        generalize w5.setCell ⟨b2, 13, none⟩ (.int .u64 m) = w6 at *
        go_wp2_with (refine wpList_load_row rfl 49 _ rfl b2 (by kernel_rfl) 49 (cfV l m) (0, 0) _ HB7.out Tryd.underlying49 rfl (by kernel_rfl) ?_)
        refine (HTC.out w6 (HE.out.later HMW7.out).pow).mono ?_
        rintro e w8 ⟨rfl, m8⟩
        have HB8 := Lib.hid (HB7.out.mod m8 (fun e => e))
        have HM8 := Lib.hid (HMW7.out.trans m8 (fun _ _ e => e))
        clear c3 f3 m8
        by_cases hte : textC (l ++ [m]) = tx
        · have hrr := HRR.out
          rw [if_pos ⟨hwl15, hte⟩] at hrr
          subst hrr
          have t1 := str_same (a := tb (textC (l ++ [m]))) (b := tb tx) (by rw [tb_data, tb_data]; exact hte)
          have t2 : (tb (textC (l ++ [m]))).toList = (tb tx).toList := by simpa using t1
          clear hte
          go_wp2_with (first | (refine wpList_load_row rfl 49 _ rfl b2 (by kernel_rfl) 49 (cfV l m) (0, 0) _ HB8.out Tryd.underlying49 rfl (by kernel_rfl) ?_) | (refine wpList_store_row rfl 49 _ _ rfl b2 (cfV l m) (by kernel_rfl) (by kernel_rfl) 49 _ HB8.out (by kernel_rfl) (by kernel_rfl) (by kernel_rfl) ?_))
          refine bodyPost_ret (ret_cell_tmp (p := 2) (q := 3) (by kernel_rfl) _ _ b2 49 (cfV l m) _ (.int .i64 0) (by kernel_rfl) (by kernel_rfl) (setRow_blk HB8.out) Tryd.underlying49 (by kernel_rfl) (by kernel_rfl)) (by kernel_rfl) ?_
          exact ⟨rfl, HM8.out.trans (setRow_mod _ b2 _) (fun i hi e => by omega)⟩
        · have hrr := HRR.out
          rw [if_neg (fun e => hte e.2)] at hrr
          subst hrr
          have t1 := str_other (a := tb (textC (l ++ [m]))) (b := tb tx) (by rw [tb_data, tb_data]; exact hte)
          have t2 : ¬ (tb (textC (l ++ [m]))).toList = (tb tx).toList := by simpa using t1
          have t3 : (!(tb (textC (l ++ [m]))).toList == (tb tx).toList) = true := by rw [t1]; rfl
          clear hte
          go_wp2_with (refine wpList_store_row rfl 49 _ _ rfl b2 (cfV zeroL 0) (by kernel_rfl) (by kernel_rfl) 49 _ HB8.out (by kernel_rfl) (by kernel_rfl) (by kernel_rfl) ?_)
          refine bodyPost_ret (ret_cell_tmp (p := 2) (q := 3) (by kernel_rfl) _ _ b2 49 (cfV zeroL 0) _ (.int .i64 2) (by kernel_rfl) (by kernel_rfl) (setRow_blk HB8.out) Tryd.underlying49 (by kernel_rfl) (by kernel_rfl)) (by kernel_rfl) ?_
          exact ⟨rfl, HM8.out.trans (setRow_mod _ b2 _) (fun i hi e => by omega)⟩
  · have hnz : ¬ (nw : Int) = 15 := by omega
    have hnz' : ((nw : Int) != 15) = true := by simpa using hnz
    have hr := HR.out
    unfold parC at hr
    rw [HWS.out, if_neg (fun e => hn (HNW.out.trans e.1))] at hr
    subst hr
    go_wp2_with (refine wpList_store_row rfl 49 _ _ rfl b2 (cfV zeroL 0) (by kernel_rfl) (by kernel_rfl) 49 _ HB3.out (by kernel_rfl) (by kernel_rfl) (by kernel_rfl) ?_)
    refine bodyPost_ret (ret_cell_tmp (p := 2) (q := 3) (by kernel_rfl) _ _ b2 49 (cfV zeroL 0) _ (.int .i64 2) (by kernel_rfl) (by kernel_rfl) (setRow_blk HB3.out) Tryd.underlying49 (by kernel_rfl) (by kernel_rfl)) (by kernel_rfl) ?_
    exact ⟨rfl, HM3.out.trans (setRow_mod _ b2 _) (fun i hi e => by omega)⟩
end Go.Proofs.YtpnicodjjbincaaDoor
