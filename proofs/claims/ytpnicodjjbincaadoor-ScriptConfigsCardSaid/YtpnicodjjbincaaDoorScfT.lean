/- TextConfig: the program's and the reference's contracts. -/
import Derived.Test.YtpnicodjjbincaaDoorScfW
import Derived.Test.YtpnicodjjbincaaDoorScfF
namespace Go.Proofs.YtpnicodjjbincaaDoor
open Go.RowKit
set_option linter.unusedVariables false
set_option maxHeartbeats 8000000
set_option maxRecDepth 100000
theorem text_out {L : List Int} {z : Int} (hz : z ∈ L) (h : z < 0 ∨ 1152921504606846976 < z) : textC L = [] := by
  unfold textC
  rw [if_neg]
  intro e
  have := List.all_eq_true.1 e z hz
  rw [inB_no h] at this
  cases this
theorem text_in {L : List Int} (h : L.all inB = true) : textC L = cfgT ++ numsT L := if_pos h
theorem nums_snoc {l : List Int} {q : Nat} (h : q < l.length) : numsT (l.take (q + 1)) = numsT (l.take q) ++ 32 :: Lib.decDigits (nth l q).toNat := by
  unfold numsT
  rw [List.take_succ_eq_append_getElem h, List.flatMap_append]
  congr 1
  simp [nth_get h]
theorem nums_len : ∀ l : List Int, (∀ z ∈ l, inB z = true) → (numsT l).length ≤ 20 * l.length
  | [], _ => by simp [numsT]
  | z :: l, h => by
    have ih := nums_len l fun y hy => h y (List.mem_cons_of_mem _ hy)
    have hz := (inB_iff z).1 (h z (List.mem_cons_self ..))
    have := decDigits_len 19 z.toNat (by omega) (by omega)
    unfold numsT at ih ⊢
    rw [List.flatMap_cons, List.length_append, List.length_cons, List.length_cons]
    omega
theorem all_snoc {l : List Int} {q : Nat} (h : q < l.length) (ha : ∀ z ∈ l.take q, inB z = true) (hz : inB (nth l q) = true) : ∀ z ∈ l.take (q + 1), inB z = true := fun z hm => by
  rw [List.take_succ_eq_append_getElem h] at hm
  rcases List.mem_append.1 hm with hm | hm
  · exact ha z hm
  · simp only [List.mem_singleton] at hm
    rw [hm]
    rwa [nth_get h] at hz
theorem getD_mem {l : List Int} {q : Nat} (h : q < l.length) : nth l q ∈ l := by
  rw [nth_get h]
  exact List.getElem_mem h
theorem textCW (l : List Int) (m : Int) (hl : l.length = 13) (hm : 0 ≤ m ∧ m ≤ 18446744073709551615) (w : World) (hp : Pow w) :
    Calls Tryd.prog 21 #[.agg (cfV l m)] w fun e w' => e = .returned (.string (tb (textC (l ++ [m])))) ∧ Mod (fun _ => False) w w' := by
  obtain ⟨R, hR⟩ : ∃ R, textC (l ++ [m]) = R := ⟨_, rfl⟩
  rw [hR]
  have HR := Lib.hid hR
  have HL := Lib.hid hl
  have HB1 := Lib.hid (Blk.new w 49 (cfV l m))
  have HM1 := Lib.hid ((Mod.refl (fun _ => False) w).alloc (.cells (cfV l m) 49))
  have HP := Lib.hid hp
  have HN := Lib.hid (numsW w.heap.size (w.alloc (.cells (cfV l m) 49)))
  clear hR hp
  unfold cfV at HB1 HM1 HN ⊢
  go_enter Tryd.func21, Tryd.ntmps21
  go_wp2_with fail
  refine HN.out.mono ?_
  rintro e w2 ⟨rfl, hbp, m2⟩
  have HB2 := Lib.hid (show Blk w2 w.heap.size 49 (cfV l m) from HB1.out.mod m2 (fun e => e))
  have HP2 := Lib.hid hbp
  have HM2 := Lib.hid (HM1.out.trans m2 (fun _ _ e => e))
  have hw2 := m2.size
  have hlt2 := hbp.lt
  clear HB1 HM1 HN hbp m2
  have hs1 : (w.alloc (.cells #[.int .i64 (nth l 0), .int .i64 (nth l 1), .int .i64 (nth l 2), .int .i64 (nth l 3), .int .i64 (nth l 4), .int .i64 (nth l 5), .int .i64 (nth l 6), .int .i64 (nth l 7), .int .i64 (nth l 8), .int .i64 (nth l 9), .int .i64 (nth l 10), .int .i64 (nth l 11), .int .i64 (nth l 12), .int .u64 m] 49)).heap.size = w.heap.size + 1 := by simp
  rw [hs1] at hw2 hlt2 HP2 ⊢
  clear hs1
  generalize w.heap.size = b at *
  go_wp2_with fail
  go_loopw [3, 8] (fun s i wr => ∃ q : Nat, i = .int .i64 q ∧ q ≤ 13 ∧ s = .string (tb (cfgT ++ numsT (l.take q))) ∧ Hid (∀ z ∈ l.take q, inB z = true) ∧ Mod (fun _ => False) w2 wr) (fun _ i _ => 13 - (intOf i).toNat)
  case atStart => exact ⟨0, rfl, by omega, rfl, Lib.hid (fun z h => by simp at h), Mod.refl _ _⟩
  case round =>
    obtain ⟨q, rfl, hq, rfl, ha, hmr⟩ := hrel
    by_cases hq13 : q < 13
    · have hqz : (q : Int) < 13 := by omega
      have hqz0 : (0 : Int) ≤ (q : Int) := by omega
      have hql : q < l.length := by omega
      have c1 : wr.cell? ⟨b + 1, q, none⟩ = some (.pointer (some ⟨b, q, none⟩)) := ((HP2.out.mod hmr (fun e => e)).cell q).trans (ptrs_at b q hq13)
      have c2 : wr.cell? ⟨b, q, none⟩ = some (.int .i64 (nth l q)) := ((HB2.out.mod hmr (fun e => e)).cell q).trans (cfV_at l m q hq13)
      have hns := nums_snoc hql
      have hnl := nums_len (l.take q) ha.out
      have has := all_snoc hql ha.out
      have hmem := getD_mem hql
      rw [List.length_take] at hnl
      generalize nth l q = z at *
      have HNS := Lib.hid hns
      have HAS := Lib.hid has
      have HMM := Lib.hid hmem
      have HM3 := Lib.hid hmr
      clear hns has hmem hmr ha
      by_cases hz0 : z < 0
      · have hd0 : decide (z < 0) = true := by simpa using hz0
        have hr := HR.out
        rw [text_out (List.mem_append_left _ HMM.out) (.inl hz0)] at hr
        subst hr
        go_wp2_with fail
        go_ret
        exact ⟨rfl, HM2.out.trans HM3.out (fun _ _ e => e)⟩
      · have hd0 : decide (z < 0) = false := by simpa using hz0
        by_cases hz1 : 1152921504606846976 < z
        · have hd1 : decide ((1152921504606846976 : Int) < z) = true := by simpa using hz1
          have hr := HR.out
          rw [text_out (List.mem_append_left _ HMM.out) (.inr hz1)] at hr
          subst hr
          go_wp2_with fail
          go_ret
          exact ⟨rfl, HM2.out.trans HM3.out (fun _ _ e => e)⟩
        · have hd1 : decide ((1152921504606846976 : Int) < z) = false := by simpa using hz1
          have hit := itoaW z (by omega) (by omega) wr (HP.out.later (HM2.out.trans HM3.out (fun _ _ e => e)))
          have hdl := decDigits_len 19 z.toNat (by omega) (by omega)
          have hin := HAS.out ((inB_iff z).2 ⟨by omega, by omega⟩)
          have hst : (tb (cfgT ++ numsT (l.take q)) ++ ((⟨#[32]⟩ : ByteArray) ++ tb (Lib.decDigits z.toNat))) = tb (cfgT ++ numsT (l.take (q + 1))) := by
            rw [HNS.out, show (⟨#[32]⟩ : ByteArray) = tb [32] from rfl, tb_append, tb_append, List.append_assoc]
            rfl
          have hsl : (cfgT ++ numsT (l.take q)).length ≤ 300 := by
            rw [List.length_append, show cfgT.length = 6 from rfl]
            omega
          generalize cfgT ++ numsT (l.take q) = st at *
          have q1 : ¬ 9223372036854775807 < 1 + (tb (Lib.decDigits z.toNat)).size := by rw [tb_size]; omega
          have q2 : ¬ 9223372036854775807 < (tb st).size + (1 + (tb (Lib.decDigits z.toNat)).size) := by rw [tb_size, tb_size]; omega
          have q3 : ¬ 9223372036854775807 < (tb st).size + ((⟨#[32]⟩ : ByteArray) ++ tb (Lib.decDigits z.toNat)).size := by rw [show (⟨#[32]⟩ : ByteArray) = tb [32] from rfl, tb_append, tb_size, tb_size]; simp; omega
          have HIT := Lib.hid hit
          have HIN := Lib.hid hin
          have HST := Lib.hid hst
          clear hit hin hst hdl hnl
          go_wp2_with fail
          refine HIT.out.mono ?_
          rintro e w5 ⟨rfl, m5⟩
          have HM5 := Lib.hid (HM3.out.trans m5 (fun _ _ e => e))
          clear m5
          go_wp2_with fail
          go_roundw
          case rel => exact ⟨q + 1, by go_num, by omega, by rw [← HST.out], HIN, HM5.out⟩
          case measure => simp [intOf]; omega
    · obtain rfl : q = 13 := by omega
      have hta : l.take 13 = l := List.take_of_length_le (by rw [HL.out]; exact Nat.le_refl _)
      rw [hta] at ha
      rw [hta]
      have c3 : wr.cell? ⟨b, 13, none⟩ = some (.int .u64 m) := (HB2.out.mod hmr (fun e => e)).cell 13
      have hnl := nums_len l ha.out
      have HA := Lib.hid ha.out
      have HM3 := Lib.hid hmr
      clear hta ha hmr
      by_cases hm1 : 1152921504606846976 < m
      · have hd1 : decide ((1152921504606846976 : Int) < m) = true := by simpa using hm1
        have hr := HR.out
        rw [text_out (List.mem_append_right _ (List.mem_singleton.2 rfl)) (.inr hm1)] at hr
        subst hr
        go_wp2_with fail
        go_ret
        exact ⟨rfl, HM2.out.trans HM3.out (fun _ _ e => e)⟩
      · have hd1 : decide ((1152921504606846976 : Int) < m) = false := by simpa using hm1
        obtain ⟨u, rfl⟩ : ∃ u : Nat, m = u := ⟨m.toNat, by omega⟩
        have hall : (l ++ [(u : Int)]).all inB = true := by
          rw [List.all_append, Bool.and_eq_true]
          refine ⟨List.all_eq_true.2 HA.out, ?_⟩
          simp only [List.all_cons, List.all_nil, Bool.and_true]
          exact (inB_iff _).2 ⟨by omega, by omega⟩
        have hr := HR.out
        rw [text_in hall] at hr
        have hfu := formatUW u (by omega) wr (HP.out.later (HM2.out.trans HM3.out (fun _ _ e => e)))
        have hdl := decDigits_len 19 u (by omega) (by omega)
        have hst : (tb (cfgT ++ numsT l) ++ (⟨#[32]⟩ : ByteArray) ++ tb (Lib.decDigits u)) = tb R := by
          rw [← hr, show (⟨#[32]⟩ : ByteArray) = tb [32] from rfl, tb_append, tb_append]
          unfold numsT
          rw [List.flatMap_append]
          simp
        have hsl : (cfgT ++ numsT l).length ≤ 300 := by
          rw [List.length_append, show cfgT.length = 6 from rfl]
          omega
        generalize cfgT ++ numsT l = st at *
        have q1 : ¬ 9223372036854775807 < (tb st).size + 1 := by rw [tb_size]; omega
        have q2 : ¬ 9223372036854775807 < (tb st).size + 1 + (tb (Lib.decDigits u)).size := by rw [tb_size, tb_size]; omega
        have q3 : ¬ 9223372036854775807 < (tb st ++ (⟨#[32]⟩ : ByteArray)).size + (tb (Lib.decDigits u)).size := by rw [show (⟨#[32]⟩ : ByteArray) = tb [32] from rfl, tb_append, tb_size, tb_size]; simp; omega
        have HFU := Lib.hid hfu
        have HST := Lib.hid hst
        clear hfu hst hdl hnl hr hall
        go_wp2_with fail
        refine HFU.out.mono ?_
        rintro e w5 ⟨rfl, m5⟩
        have HM5 := Lib.hid (HM3.out.trans m5 (fun _ _ e => e))
        clear m5
        go_wp2_with fail
        go_ret
        exact ⟨by rw [← HST.out]; rfl, HM2.out.trans HM5.out (fun _ _ e => e)⟩
end Go.Proofs.YtpnicodjjbincaaDoor
