/- The reference's configs: numbers, TextConfig, ParseConfig. -/
import Derived.Test.YtpnicodjjbincaaDoorScfC
namespace Go.Proofs.YtpnicodjjbincaaDoor
open Go.RowKit
set_option linter.unusedVariables false
set_option maxHeartbeats 8000000
set_option maxRecDepth 100000
def lastN (m : Int) : Int := if m ≤ 1152921504606846976 then m else -1
theorem text_last (l : List Int) (m : Int) : textC (l ++ [lastN m]) = textC (l ++ [m]) := by
  unfold lastN
  split
  · rfl
  · rw [text_out (List.mem_append_right _ (List.mem_singleton.2 rfl)) (.inl (by omega)), text_out (List.mem_append_right _ (List.mem_singleton.2 rfl)) (.inr (by omega))]
theorem numbersW (l : List Int) (m : Int) (hl : l.length = 13) (hm : 0 ≤ m ∧ m ≤ 18446744073709551615) (w : World) :
    Calls Tryd.prog 43 #[.agg (cfV l m)] w fun e w' => (∃ g, e = .returned (.slice (some ⟨g, 0, none⟩) 14 14) ∧ Own w' w.heap.size 3 1 encI (.slice (some ⟨g, 0, none⟩) 14 14) (l ++ [lastN m])) ∧ Mod (fun _ => False) w w' := by
  have HB := Lib.hid (Blk.new w 49 (cfV l m))
  have HM := Lib.hid ((Mod.refl (fun _ => False) w).alloc (.cells (cfV l m) 49))
  have HS := Lib.hid (show (w.alloc (.cells (cfV l m) 49)).heap.size = w.heap.size + 1 by simp)
  have key : ∀ z, Own ((w.alloc (.cells (cfV l m) 49)).alloc (.cells #[.int .i64 (nth l 0), .int .i64 (nth l 1), .int .i64 (nth l 2), .int .i64 (nth l 3), .int .i64 (nth l 4), .int .i64 (nth l 5), .int .i64 (nth l 6), .int .i64 (nth l 7), .int .i64 (nth l 8), .int .i64 (nth l 9), .int .i64 (nth l 10), .int .i64 (nth l 11), .int .i64 (nth l 12), .int .i64 z] 3)) w.heap.size 3 1 encI (.slice (some ⟨w.heap.size + 1, 0, none⟩) 14 14) (l ++ [z]) := fun z => by
    have hown := litOwn (w := w.alloc (.cells (cfV l m) 49)) (base := w.heap.size) (n := w.heap.size + 1) (size := 1) 3 #[.int .i64 (nth l 0), .int .i64 (nth l 1), .int .i64 (nth l 2), .int .i64 (nth l 3), .int .i64 (nth l 4), .int .i64 (nth l 5), .int .i64 (nth l 6), .int .i64 (nth l 7), .int .i64 (nth l 8), .int .i64 (nth l 9), .int .i64 (nth l 10), .int .i64 (nth l 11), .int .i64 (nth l 12), .int .i64 z] 14 HS.out (by omega) (by decide) rfl
    have hlen : (l ++ [z]).length = 14 := by rw [List.length_append, hl]; rfl
    unfold Own
    rw [hlen, flat_I, ← cf_list hl z]
    exact hown
  have HK := Lib.hid key
  clear key
  unfold cfV at HB HM HS HK ⊢
  by_cases h : m ≤ 1152921504606846976
  · have hd : decide (m ≤ 1152921504606846976) = true := by simpa using h
    have hw : IntKind.i64.wrap m = m := by rw [IntKind.wrap_i64]; omega
    rw [show lastN m = m from if_pos h]
    go_enter Tryd.func43, Tryd.ntmps43
    go_wp2_with fail
    go_ret
    exact ⟨⟨_, rfl, HK.out _⟩, HM.out.alloc _⟩
  · have hd : decide (m ≤ 1152921504606846976) = false := by simpa using h
    rw [show lastN m = -1 from if_neg h]
    go_enter Tryd.func43, Tryd.ntmps43
    go_wp2_with fail
    go_ret
    exact ⟨⟨_, rfl, HK.out _⟩, HM.out.alloc _⟩
theorem textCRW (l : List Int) (m : Int) (hl : l.length = 13) (hm : 0 ≤ m ∧ m ≤ 18446744073709551615) (w : World) :
    Calls Tryd.prog 22 #[.agg (cfV l m)] w fun e w' => e = .returned (.string (tb (textC (l ++ [m])))) ∧ Mod (fun _ => False) w w' := by
  obtain ⟨R, hR⟩ : ∃ R, textC (l ++ [m]) = R := ⟨_, rfl⟩
  rw [hR]
  rw [← text_last] at hR
  have HR := Lib.hid hR
  have hm1 := (Mod.refl (fun _ => False) w).alloc (.cells (cfV l m) 49)
  have hn := numbersW l m hl hm (w.alloc (.cells (cfV l m) 49))
  have hL : (l ++ [lastN m]).length = 14 := by rw [List.length_append, hl]; rfl
  generalize l ++ [lastN m] = L at *
  have HN := Lib.hid hn
  have HL := Lib.hid hL
  have HM1 := Lib.hid hm1
  clear hR hn hL hm1
  unfold cfV at HN HM1 ⊢
  go_enter Tryd.func22, Tryd.ntmps22
  go_wp2_with fail
  refine HN.out.mono ?_
  rintro e w2 ⟨⟨g, rfl, hown⟩, m2⟩
  have HO := Lib.hid hown
  have HM2 := Lib.hid (HM1.out.trans m2 (fun _ _ e => e))
  clear HN HM1 hown m2
  go_wp2_with fail
  go_loopw [4, 5] (fun s i wr => ∃ q : Nat, i = .int .i64 q ∧ q ≤ 14 ∧ s = .string (tb (cfgT ++ numsT (L.take q))) ∧ Hid (∀ z ∈ L.take q, inB z = true) ∧ Mod (fun _ => False) w2 wr) (fun _ i _ => 14 - (intOf i).toNat)
  case atStart => exact ⟨0, rfl, by omega, rfl, Lib.hid (fun z h => by simp at h), Mod.refl _ _⟩
  case round =>
    obtain ⟨q, rfl, hq, rfl, ha, hmr⟩ := hrel
    by_cases hq14 : q < 14
    · have hqz : (q : Int) < 14 := by omega
      have hqz0 : (0 : Int) ≤ (q : Int) := by omega
      have hql : q < L.length := by rw [HL.out]; exact hq14
      have c1 : wr.cell? ⟨g, q, none⟩ = some (.int .i64 (nth L q)) := by
        have h := (HO.out.later hmr).cell encI_len (List.getElem?_eq_getElem hql) (j := 0) (by omega)
        rw [nth_get hql]
        simpa [encI] using h
      have hns := nums_snoc hql
      have hnl := nums_len (L.take q) ha.out
      have has := all_snoc hql ha.out
      have hmem := getD_mem hql
      rw [List.length_take] at hnl
      generalize nth L q = z at *
      have HNS := Lib.hid hns
      have HAS := Lib.hid has
      have HMM := Lib.hid hmem
      have HM3 := Lib.hid hmr
      clear hns has hmem hmr ha
      by_cases hz0 : z < 0
      · have hd0 : decide (z < 0) = true := by simpa using hz0
        have hr := HR.out
        rw [text_out HMM.out (.inl hz0)] at hr
        subst hr
        go_wp2_with fail
        go_ret
        exact ⟨rfl, HM2.out.trans HM3.out (fun _ _ e => e)⟩
      · have hd0 : decide (z < 0) = false := by simpa using hz0
        by_cases hz1 : 1152921504606846976 < z
        · have hd1 : decide ((1152921504606846976 : Int) < z) = true := by simpa using hz1
          have hr := HR.out
          rw [text_out HMM.out (.inr hz1)] at hr
          subst hr
          go_wp2_with fail
          go_ret
          exact ⟨rfl, HM2.out.trans HM3.out (fun _ _ e => e)⟩
        · have hd1 : decide ((1152921504606846976 : Int) < z) = false := by simpa using hz1
          obtain ⟨u, rfl⟩ : ∃ u : Nat, z = u := ⟨z.toNat, by omega⟩
          have hit := decimalW u (by omega) wr
          rw [show strOfNums (dec u) = tb (Lib.decDigits u) from data_inj (by rw [dec_text _ (by omega), tb_data])] at hit
          have hdl := decDigits_len 19 u (by omega) (by omega)
          have hin := HAS.out ((inB_iff _).2 ⟨by omega, by omega⟩)
          have hst : (tb (cfgT ++ numsT (L.take q)) ++ (⟨#[32]⟩ : ByteArray) ++ tb (Lib.decDigits u)) = tb (cfgT ++ numsT (L.take (q + 1))) := by
            rw [HNS.out, show (⟨#[32]⟩ : ByteArray) = tb [32] from rfl, tb_append, tb_append, List.append_assoc, List.append_assoc]
            rfl
          have hsl : (cfgT ++ numsT (L.take q)).length ≤ 300 := by
            rw [List.length_append, show cfgT.length = 6 from rfl]
            omega
          generalize cfgT ++ numsT (L.take q) = st at *
          have q1 : ¬ 9223372036854775807 < (tb st).size + 1 := by rw [tb_size]; omega
          have q2 : ¬ 9223372036854775807 < (tb st).size + 1 + (tb (Lib.decDigits u)).size := by rw [tb_size, tb_size]; omega
          have q3 : ¬ 9223372036854775807 < (tb st ++ (⟨#[32]⟩ : ByteArray)).size + (tb (Lib.decDigits u)).size := by rw [show (⟨#[32]⟩ : ByteArray) = tb [32] from rfl, tb_append, tb_size, tb_size]; simp; omega
          have HIT := Lib.hid hit
          have HIN := Lib.hid hin
          have HST := Lib.hid hst
          clear hit hin hst hdl hnl
          go_wp2_with fail
          refine HIT.out.mono ?_
          rintro e w5 ⟨rfl, m5⟩
          have HM5 := Lib.hid (HM3.out.trans m5 (fun _ _ e => e))
          clear m5
          go_wp2_with fail
          go_roundw
          case rel => exact ⟨q + 1, by go_num, by omega, by rw [← HST.out], HIN, HM5.out⟩
          case measure => simp [intOf]; omega
    · obtain rfl : q = 14 := by omega
      have hta : L.take 14 = L := List.take_of_length_le (by rw [HL.out]; exact Nat.le_refl _)
      rw [hta] at ha
      rw [hta]
      have hr := HR.out
      rw [text_in (List.all_eq_true.2 ha.out)] at hr
      have HM3 := Lib.hid hmr
      rw [hr]
      clear hta ha hmr
      go_wp2_with fail
      go_ret
      exact ⟨rfl, HM2.out.trans HM3.out (fun _ _ e => e)⟩
/-- Fourteen numbers' cells. -/
def nV (l : List Int) : Array Value := #[.int .i64 (nth l 0), .int .i64 (nth l 1), .int .i64 (nth l 2), .int .i64 (nth l 3), .int .i64 (nth l 4), .int .i64 (nth l 5), .int .i64 (nth l 6), .int .i64 (nth l 7), .int .i64 (nth l 8), .int .i64 (nth l 9), .int .i64 (nth l 10), .int .i64 (nth l 11), .int .i64 (nth l 12), .int .i64 (nth l 13)]
theorem nV_at (l : List Int) : ∀ i, i < 14 → (nV l)[i]? = some (.int .i64 (nth l i))
  | 0, _ => rfl
  | 1, _ => rfl
  | 2, _ => rfl
  | 3, _ => rfl
  | 4, _ => rfl
  | 5, _ => rfl
  | 6, _ => rfl
  | 7, _ => rfl
  | 8, _ => rfl
  | 9, _ => rfl
  | 10, _ => rfl
  | 11, _ => rfl
  | 12, _ => rfl
  | 13, _ => rfl
  | n + 14, h => absurd h (by omega)
theorem nV_set {l : List Int} (hl : l.length = 14) (z : Int) : ∀ i, i < 14 → (nV l).setIfInBounds i (.int .i64 z) = nV (l.set i z) := by
  match l, hl with
  | [z0, z1, z2, z3, z4, z5, z6, z7, z8, z9, z10, z11, z12, z13], _ =>
    intro i hi
    match i, hi with
    | 0, _ => rfl
    | 1, _ => rfl
    | 2, _ => rfl
    | 3, _ => rfl
    | 4, _ => rfl
    | 5, _ => rfl
    | 6, _ => rfl
    | 7, _ => rfl
    | 8, _ => rfl
    | 9, _ => rfl
    | 10, _ => rfl
    | 11, _ => rfl
    | 12, _ => rfl
    | 13, _ => rfl
    | n + 14, h => exact absurd h (by omega)
/-- .. as a config. -/
def cfW (l : List Int) : Array Value := #[.int .i64 (nth l 0), .int .i64 (nth l 1), .int .i64 (nth l 2), .int .i64 (nth l 3), .int .i64 (nth l 4), .int .i64 (nth l 5), .int .i64 (nth l 6), .int .i64 (nth l 7), .int .i64 (nth l 8), .int .i64 (nth l 9), .int .i64 (nth l 10), .int .i64 (nth l 11), .int .i64 (nth l 12), .int .u64 (nth l 13)]
theorem cfW_eq {l : List Int} (hl : l.length = 14) : cfW l = cfV (l.take 13) (nth l 13) := by
  match l, hl with
  | [z0, z1, z2, z3, z4, z5, z6, z7, z8, z9, z10, z11, z12, z13], _ => rfl
theorem numR_le (high : Int) (h9 : 9 ≤ high) (s : Tx) : numR high s ≤ high := by
  unfold numR
  split
  · omega
  · unfold numEnd
    split
    · omega
    · rename_i n hn
      have := numLoop_bd high s 0 n h9 (by omega) (by omega) hn
      split <;> omega
def zero14 : List Int := List.replicate 14 0
theorem parseCRW (s : ByteArray) (hs : s.size ≤ 100000) (w : World) :
    Calls Tryd.prog 20 #[.string s] w fun e w' => e = .returned (.tuple #[.agg (cfV (refC s.data.toList).1.1 (refC s.data.toList).1.2), .int .i64 (refC s.data.toList).2]) ∧ Mod (fun _ => False) w w' := by
  obtain ⟨tx, rfl⟩ : ∃ tx, s = tb tx := ⟨s.data.toList, (tb_of s).symm⟩
  rw [tb_data]
  rw [tb_size] at hs
  generalize hR : refC tx = R
  have HR := Lib.hid hR
  clear hR
  have hm1 := (Mod.refl (fun _ => False) w).alloc (.cells #[.int .i64 0, .int .i64 0, .int .i64 0, .int .i64 0, .int .i64 0, .int .i64 0, .int .i64 0, .int .i64 0, .int .i64 0, .int .i64 0, .int .i64 0, .int .i64 0, .int .i64 0, .int .u64 0] 49)
  have HB1 := Lib.hid (show Blk _ w.heap.size 49 (cfV zeroL 0) from Blk.new w 49 #[.int .i64 0, .int .i64 0, .int .i64 0, .int .i64 0, .int .i64 0, .int .i64 0, .int .i64 0, .int .i64 0, .int .i64 0, .int .i64 0, .int .i64 0, .int .i64 0, .int .i64 0, .int .u64 0])
  go_enter Tryd.func20, Tryd.ntmps20
  go_wp2_with fail
  have hs1 : (w.alloc (.cells #[.int .i64 0, .int .i64 0, .int .i64 0, .int .i64 0, .int .i64 0, .int .i64 0, .int .i64 0, .int .i64 0, .int .i64 0, .int .i64 0, .int .i64 0, .int .i64 0, .int .i64 0, .int .u64 0] 49)).heap.size = w.heap.size + 1 := by simp
  generalize w.alloc (.cells #[.int .i64 0, .int .i64 0, .int .i64 0, .int .i64 0, .int .i64 0, .int .i64 0, .int .i64 0, .int .i64 0, .int .i64 0, .int .i64 0, .int .i64 0, .int .i64 0, .int .i64 0, .int .u64 0] 49) = w1 at *
  generalize hb2 : w.heap.size = b2 at *
  refine (splitRW (tb tx) (by rw [tb_size]; omega) w1).mono ?_
  rintro e w2 ⟨⟨v2, rfl, ho2⟩, m2⟩
  rw [tb_data, show wordsT tx = cutT 32 tx from rfl] at ho2
  generalize hws : cutT 32 tx = ws at *
  have hwp : 0 < ws.length := by
    have := wordsT_ne 32 tx
    rw [hws] at this
    exact List.length_pos_iff.2 this
  obtain ⟨gl, cl, rfl, hcl, hgl1, hgl2⟩ := ho2.form1 hwp
  have hwl : ws.length ≤ 100001 := by
    rw [← hws, wordsT_len]
    have := List.count_le_length (a := 32) (l := tx)
    omega
  have hwb : ∀ t ∈ ws, t.length ≤ 100000 := fun t ht => by
    have := wordsT_bound 32 tx t (by rw [hws]; exact ht)
    omega
  obtain ⟨nw, hnw⟩ : ∃ nw, nw = ws.length := ⟨_, rfl⟩
  rw [← hnw] at ho2 hwl hcl hwp ⊢
  have HWS := Lib.hid hws
  have HWB := Lib.hid hwb
  have HNW := Lib.hid hnw
  have hm3 := m2.alloc (.cells #[.int .i64 0, .int .i64 0, .int .i64 0, .int .i64 0, .int .i64 0, .int .i64 0, .int .i64 0, .int .i64 0, .int .i64 0, .int .i64 0, .int .i64 0, .int .i64 0, .int .i64 0, .int .i64 0] 86)
  have HB3 := Lib.hid (HB1.out.mod hm3 (fun e => e))
  have HO3 := Lib.hid (ho2.later ((Mod.refl (fun _ => False) w2).alloc (.cells #[.int .i64 0, .int .i64 0, .int .i64 0, .int .i64 0, .int .i64 0, .int .i64 0, .int .i64 0, .int .i64 0, .int .i64 0, .int .i64 0, .int .i64 0, .int .i64 0, .int .i64 0, .int .i64 0] 86)))
  have HM3 := Lib.hid (hm1.trans hm3 (fun _ _ e => e))
  have HN3 := Lib.hid (show Blk _ w2.heap.size 86 (nV zero14) from Blk.new w2 86 #[.int .i64 0, .int .i64 0, .int .i64 0, .int .i64 0, .int .i64 0, .int .i64 0, .int .i64 0, .int .i64 0, .int .i64 0, .int .i64 0, .int .i64 0, .int .i64 0, .int .i64 0, .int .i64 0])
  have hw2 := m2.size
  clear hm1 HB1 m2 hws hwb hnw ho2 hm3
  go_upto_region 3 with fail
  have hs3 : (w2.alloc (.cells #[.int .i64 0, .int .i64 0, .int .i64 0, .int .i64 0, .int .i64 0, .int .i64 0, .int .i64 0, .int .i64 0, .int .i64 0, .int .i64 0, .int .i64 0, .int .i64 0, .int .i64 0, .int .i64 0] 86)).heap.size = w2.heap.size + 1 := by simp
  generalize w2.alloc (.cells #[.int .i64 0, .int .i64 0, .int .i64 0, .int .i64 0, .int .i64 0, .int .i64 0, .int .i64 0, .int .i64 0, .int .i64 0, .int .i64 0, .int .i64 0, .int .i64 0, .int .i64 0, .int .i64 0] 86) = w3 at *
  generalize hbn : w2.heap.size = bn at *
  by_cases hn : nw = 15
  · subst hn
    have hwl15 : ws.length = 15 := HNW.out.symm
    have hpl : (refL ws).length = 14 := ref_len hwl15
    go_wp2_with fail
    go_loopw [6] (fun i wr => ∃ (q : Nat) (l : List Int), i = .int .i64 q ∧ q ≤ 14 ∧ l.length = 14 ∧ Hid (l.take q = (refL ws).take q ∧ ∀ z ∈ (refL ws).take q, 0 ≤ z) ∧ Blk wr bn 86 (nV l) ∧ Mod (fun i => i = bn) w3 wr) (fun i _ => 14 - (intOf i).toNat)
    case atStart => exact ⟨0, zero14, rfl, by omega, rfl, Lib.hid ⟨rfl, fun z h => by simp at h⟩, HN3.out, Mod.refl _ _⟩
    case round =>
      obtain ⟨q, l, rfl, hq, hl, heq, hbr, hmr⟩ := hrel
      have HMW := Lib.hid (HM3.out.trans hmr (fun i hi e => by omega))
      have hwr := hmr.size
      by_cases hq14 : q < 14
      · have hqz : (q : Int) < 14 := by omega
        have hqz0 : (0 : Int) ≤ (q : Int) := by omega
        have hqw : IntKind.i64.wrap ((q : Int) + 1) = (q : Int) + 1 := by rw [IntKind.wrap_i64]; omega
        have hq1 : q + 1 < ws.length := by omega
        have ht? := List.getElem?_eq_getElem hq1
        have htb := HWB.out _ (List.getElem_mem hq1)
        have hpz : (refL ws)[q]? = some (numR 1152921504606846976 (ws[q + 1]'hq1)) := by
          unfold refL
          rw [List.getElem?_map, List.getElem?_take, if_pos hq14, List.getElem?_drop, show 1 + q = q + 1 by omega, ht?]
          rfl
        have c2 : wr.cell? ⟨gl, q + 1, none⟩ = some (.string (tb (ws[q + 1]'hq1))) := by
          have h := (HO3.out.mod hmr (fun z e1 e2 => by have := Option.some.inj e1; simp only at this; omega)).cell encT_len ht? (j := 0) (by omega)
          simpa [encT] using h
        generalize ws[q + 1]'hq1 = t at *
        have hat := numRW (tb t) 1152921504606846976 (by decide) (by decide) (by rw [tb_size]; omega) wr
        rw [tb_data] at hat
        generalize numR 1152921504606846976 t = z at *
        have htk := take_more heq.out.1 (by omega) hpz
        have hpt := take_snoc hpz
        have HAT := Lib.hid hat
        have HTM := Lib.hid htk
        have HPT := Lib.hid hpt
        have HEQ := Lib.hid heq.out.2
        have HPZ := Lib.hid hpz
        have HBR := Lib.hid hbr
        have HMR := Lib.hid hmr
        clear ht? hpz hat hbr hmr heq htk hpt
        go_wp2_with fail
        refine HAT.out.mono ?_
        rintro e w5 ⟨rfl, m5⟩
        have hop := HBR.out.mod m5 (fun e => e)
        have c3 := (hop.cell q).trans (nV_at l q hq14)
        have f3 := hop.free q
        have hB7 : Blk (w5.setCell ⟨bn, q, none⟩ (.int .i64 z)) bn 86 (nV (l.set q z)) := by
          rw [← nV_set hl z q hq14]
          exact hop.set q _
        have HB7 := Lib.hid hB7
        have hlz : nth (l.set q z) q = z := by
          rw [nth_get (by rw [List.length_set]; omega), List.getElem_set_self]
        have HLZ := Lib.hid hlz
        have HM7 := Lib.hid ((HMR.out.trans m5 (fun _ _ e => e.elim)).setCell (p := ⟨bn, q, none⟩) (fun _ => rfl) (.int .i64 z))
        clear hop hB7 m5 hlz
        go_upto_region 9 with fail
        have c4 : (w5.setCell ⟨bn, q, none⟩ (.int .i64 z)).cell? ⟨bn, q, none⟩ = some (.int .i64 z) := by
          rw [(HB7.out.cell q).trans (nV_at _ q hq14), HLZ.out]
        generalize w5.setCell ⟨bn, q, none⟩ (.int .i64 z) = w6 at *
        clear c3 f3
        by_cases hz0 : z < 0
        · have hr := HR.out
          have hno : ¬ ((refL ws).all (fun z => decide (0 ≤ z)) = true) := fun e => by
            have := List.all_eq_true.1 e z (List.mem_of_getElem? HPZ.out)
            simp at this
            omega
          unfold refC at hr
          rw [HWS.out, if_neg (fun e => hno e.2.1)] at hr
          subst hr
          have HBB := Lib.hid (HB3.out.mod HM7.out (by omega))
          clear hno
          go_wp2_with (refine wpList_store_row rfl 49 _ _ rfl b2 (cfV zeroL 0) (by kernel_rfl) (by kernel_rfl) 49 _ HBB.out (by kernel_rfl) (by kernel_rfl) (by kernel_rfl) ?_)
          refine bodyPost_ret (ret_cell_tmp (p := 2) (q := 3) (by kernel_rfl) _ _ b2 49 (cfV zeroL 0) _ (.int .i64 2) (by kernel_rfl) (by kernel_rfl) (setRow_blk HBB.out) Tryd.underlying49 (by kernel_rfl) (by kernel_rfl)) (by kernel_rfl) ?_
          exact ⟨rfl, (HM3.out.trans HM7.out (fun i hi e => by omega)).trans (setRow_mod _ b2 _) (fun i hi e => by omega)⟩
        · have hge : ∀ y ∈ (refL ws).take (q + 1), 0 ≤ y := fun y hy => by
            rw [HPT.out] at hy
            rcases List.mem_append.1 hy with h | h
            · exact HEQ.out y h
            · simp only [List.mem_singleton] at h
              omega
          have HGE := Lib.hid hge
          clear hge
          go_wp2_with fail
          go_roundw
          case rel => exact ⟨q + 1, l.set q z, by go_num, by omega, by rw [List.length_set]; exact hl, Lib.hid ⟨HTM.out, HGE.out⟩, HB7.out, HM7.out⟩
          case measure => simp [intOf]; omega
      · obtain rfl : q = 14 := by omega
        obtain ⟨hq1, hq2⟩ := heq.out
        rw [List.take_of_length_le (by omega), List.take_of_length_le (by omega)] at hq1
        rw [List.take_of_length_le (by omega)] at hq2
        have hall : (refL ws).all (fun z => decide (0 ≤ z)) = true := List.all_eq_true.2 fun z hz => by simpa using hq2 z hz
        have hbnd : 0 ≤ nth l 13 ∧ nth l 13 ≤ 1152921504606846976 := by
          have h13 : 13 < l.length := by omega
          rw [nth_get h13]
          have hm : l[13] ∈ refL ws := by rw [← hq1]; exact List.getElem_mem h13
          refine ⟨hq2 _ hm, ?_⟩
          unfold refL at hm
          obtain ⟨t, _, e⟩ := List.mem_map.1 hm
          rw [← e]
          exact numR_le _ (by decide) t
        have hr := HR.out
        unfold refC at hr
        rw [HWS.out, ← hq1] at hr
        rw [← hq1] at hall
        have hwu : IntKind.u64.wrap (nth l 13) = nth l 13 := by rw [IntKind.wrap_u64]; omega
        have hcw := cfW_eq hl
        have htc := fun w => textCRW (l.take 13) (nth l 13) (by rw [List.length_take]; omega) ⟨hbnd.1, by omega⟩ w
        have hsp : l.take 13 ++ [nth l 13] = l := split13 hl
        rw [← hcw, hsp] at htc
        have hg13 : l.getD 13 0 = nth l 13 := rfl
        rw [hg13] at hr
        have HCW := Lib.hid hcw
        have HTC := Lib.hid htc
        have HRR := Lib.hid hr
        have HALL := Lib.hid hall
        have HMR := Lib.hid hmr
        have c0 : wr.cell? ⟨bn, 0, none⟩ = some (.int .i64 (nth l 0)) := hbr.cell 0
        have c1 : wr.cell? ⟨bn, 1, none⟩ = some (.int .i64 (nth l 1)) := hbr.cell 1
        have c2 : wr.cell? ⟨bn, 2, none⟩ = some (.int .i64 (nth l 2)) := hbr.cell 2
        have c3 : wr.cell? ⟨bn, 3, none⟩ = some (.int .i64 (nth l 3)) := hbr.cell 3
        have c4 : wr.cell? ⟨bn, 4, none⟩ = some (.int .i64 (nth l 4)) := hbr.cell 4
        have c5 : wr.cell? ⟨bn, 5, none⟩ = some (.int .i64 (nth l 5)) := hbr.cell 5
        have c6 : wr.cell? ⟨bn, 6, none⟩ = some (.int .i64 (nth l 6)) := hbr.cell 6
        have c7 : wr.cell? ⟨bn, 7, none⟩ = some (.int .i64 (nth l 7)) := hbr.cell 7
        have c8 : wr.cell? ⟨bn, 8, none⟩ = some (.int .i64 (nth l 8)) := hbr.cell 8
        have c9 : wr.cell? ⟨bn, 9, none⟩ = some (.int .i64 (nth l 9)) := hbr.cell 9
        have c10 : wr.cell? ⟨bn, 10, none⟩ = some (.int .i64 (nth l 10)) := hbr.cell 10
        have c11 : wr.cell? ⟨bn, 11, none⟩ = some (.int .i64 (nth l 11)) := hbr.cell 11
        have c12 : wr.cell? ⟨bn, 12, none⟩ = some (.int .i64 (nth l 12)) := hbr.cell 12
        have c13 : wr.cell? ⟨bn, 13, none⟩ = some (.int .i64 (nth l 13)) := hbr.cell 13
        clear hbr hmr heq hq1 hq2 hall hr hcw htc hsp hg13 hbnd hpl
        go_upto_region 12 with (refine wpList_store_row rfl 49 _ _ rfl wr.heap.size (cfW l) (by kernel_rfl) (by kernel_rfl) 49 _ (heap_alloc_new wr _) (by kernel_rfl) (by kernel_rfl) (by kernel_rfl) ?_)
        have hbc := setRow_blk (cs := cfW l) (Blk.new wr 49 #[.int .i64 0, .int .i64 0, .int .i64 0, .int .i64 0, .int .i64 0, .int .i64 0, .int .i64 0, .int .i64 0, .int .i64 0, .int .i64 0, .int .i64 0, .int .i64 0, .int .i64 0, .int .u64 0])
        have hmc := ((Mod.refl (fun _ => False) wr).alloc (.cells #[.int .i64 0, .int .i64 0, .int .i64 0, .int .i64 0, .int .i64 0, .int .i64 0, .int .i64 0, .int .i64 0, .int .i64 0, .int .i64 0, .int .i64 0, .int .i64 0, .int .i64 0, .int .u64 0] 49)).trans (setRow_mod _ wr.heap.size (cfW l)) (fun i hi e => by omega)
        have HBC := Lib.hid hbc
        have HMC := Lib.hid ((HMR.out.mono (fun i hi e => e)).trans hmc (fun _ _ e => e.elim))
        clear c0 c1 c2 c3 c4 c5 c6 c7 c8 c9 c10 c11 c12 c13 hbc hmc
        generalize (wr.alloc (.cells #[.int .i64 0, .int .i64 0, .int .i64 0, .int .i64 0, .int .i64 0, .int .i64 0, .int .i64 0, .int .i64 0, .int .i64 0, .int .i64 0, .int .i64 0, .int .i64 0, .int .i64 0, .int .u64 0] 49)).setRow wr.heap.size (cfW l) = w6 at *
        generalize wr.heap.size = bc at *
        go_wp2_with (refine wpList_load_row rfl 49 _ rfl bc (by kernel_rfl) 49 (cfW l) (0, 0) _ HBC.out Tryd.underlying49 rfl (by kernel_rfl) ?_)
        refine (HTC.out w6).mono ?_
        rintro e w8 ⟨rfl, m8⟩
        have HB8 := Lib.hid ((HB3.out.mod HMC.out (by omega)).mod m8 (fun e => e))
        have HC8 := Lib.hid (HBC.out.mod m8 (fun e => e))
        have HM8 := Lib.hid ((HM3.out.trans HMC.out (fun i hi e => by omega)).trans m8 (fun _ _ e => e))
        clear m8
        by_cases hte : textC l = tx
        · have hrr := HRR.out
          rw [if_pos ⟨hwl15, HALL.out, hte⟩] at hrr
          subst hrr
          have t1 := str_same (a := tb (textC l)) (b := tb tx) (by rw [tb_data, tb_data]; exact hte)
          have t2 : (tb (textC l)).toList = (tb tx).toList := by simpa using t1
          clear hte
          go_wp2_with (first | (refine wpList_load_row rfl 49 _ rfl bc (by kernel_rfl) 49 (cfW l) (0, 0) _ HC8.out Tryd.underlying49 rfl (by kernel_rfl) ?_) | (refine wpList_store_row rfl 49 _ _ rfl b2 (cfW l) (by kernel_rfl) (by kernel_rfl) 49 _ HB8.out (by kernel_rfl) (by kernel_rfl) (by kernel_rfl) ?_))
          refine bodyPost_ret (ret_cell_tmp (p := 2) (q := 3) (by kernel_rfl) _ _ b2 49 (cfW l) _ (.int .i64 0) (by kernel_rfl) (by kernel_rfl) (setRow_blk HB8.out) Tryd.underlying49 (by kernel_rfl) (by kernel_rfl)) (by kernel_rfl) ?_
          exact ⟨by rw [HCW.out], HM8.out.trans (setRow_mod _ b2 _) (fun i hi e => by omega)⟩
        · have hrr := HRR.out
          rw [if_neg (fun e => hte e.2.2)] at hrr
          subst hrr
          have t1 := str_other (a := tb (textC l)) (b := tb tx) (by rw [tb_data, tb_data]; exact hte)
          have t2 : ¬ (tb (textC l)).toList = (tb tx).toList := by simpa using t1
          have t3 : (!(tb (textC l)).toList == (tb tx).toList) = true := by rw [t1]; rfl
          clear hte
          go_wp2_with (refine wpList_store_row rfl 49 _ _ rfl b2 (cfV zeroL 0) (by kernel_rfl) (by kernel_rfl) 49 _ HB8.out (by kernel_rfl) (by kernel_rfl) (by kernel_rfl) ?_)
          refine bodyPost_ret (ret_cell_tmp (p := 2) (q := 3) (by kernel_rfl) _ _ b2 49 (cfV zeroL 0) _ (.int .i64 2) (by kernel_rfl) (by kernel_rfl) (setRow_blk HB8.out) Tryd.underlying49 (by kernel_rfl) (by kernel_rfl)) (by kernel_rfl) ?_
          exact ⟨rfl, HM8.out.trans (setRow_mod _ b2 _) (fun i hi e => by omega)⟩
  · have hnz : ¬ (nw : Int) = 15 := by omega
    have hnz' : ((nw : Int) != 15) = true := by simpa using hnz
    have hr := HR.out
    unfold refC at hr
    rw [HWS.out, if_neg (fun e => hn (HNW.out.trans e.1))] at hr
    subst hr
    go_wp2_with (refine wpList_store_row rfl 49 _ _ rfl b2 (cfV zeroL 0) (by kernel_rfl) (by kernel_rfl) 49 _ HB3.out (by kernel_rfl) (by kernel_rfl) (by kernel_rfl) ?_)
    refine bodyPost_ret (ret_cell_tmp (p := 2) (q := 3) (by kernel_rfl) _ _ b2 49 (cfV zeroL 0) _ (.int .i64 2) (by kernel_rfl) (by kernel_rfl) (setRow_blk HB3.out) Tryd.underlying49 (by kernel_rfl) (by kernel_rfl)) (by kernel_rfl) ?_
    exact ⟨rfl, HM3.out.trans (setRow_mod _ b2 _) (fun i hi e => by omega)⟩
end Go.Proofs.YtpnicodjjbincaaDoor
