/- The first place of a word in the table; the contract of the program's Parse. -/
import Derived.Test.YtpnicodjjbincaaDoorSSplW
namespace Go.Proofs.YtpnicodjjbincaaDoor
open Go.RowKit
set_option linter.unusedVariables false
set_option maxHeartbeats 4000000
set_option maxRecDepth 100000
def encK (p : Tx × Tx) : List Value := [.string (tb p.1), .string (tb p.2)]
theorem encK_len (p : Tx × Tx) : (encK p).length = 2 := rfl
/-- The closure of Parse: is a pair's first word the line's? -/
theorem closW (gl go bl : Nat) (p : Tx × Tx) (x : Tx) (n : Nat) (w : World) (hl : w.cell? ⟨bl, 0, none⟩ = some (.slice (some ⟨gl, 0, none⟩) n n)) (hn : 0 < n) (hx : w.cell? ⟨gl, 0, none⟩ = some (.string (tb x))) (hbl : bl < w.heap.size) (hgl : gl < w.heap.size) :
    Calls Tryd.prog 26 #[.agg #[.string (tb p.1), .string (tb p.2)], .pointer (some ⟨bl, 0, none⟩)] w fun e w' => e = .returned (.bool (decide (p.1 = x))) ∧ Mod (fun _ => False) w w' := by
  obtain ⟨b, hb⟩ : ∃ b, b = decide (p.1 = x) := ⟨_, rfl⟩
  have hs : ((tb p.1).toList == (tb x).toList) = b := by
    rw [hb]
    by_cases h : p.1 = x
    · rw [str_same (by rw [tb_data, tb_data]; exact h), decide_eq_true h]
    · rw [str_other (by rw [tb_data, tb_data]; exact h), decide_eq_false h]
  rw [← hb]
  have hn0 : (0 : Int) < (n : Int) := by omega
  have hm := (Mod.refl (fun _ => False) w).alloc (.cells #[.string (tb p.1), .string (tb p.2)] 57)
  have HM := Lib.hid hm
  clear hm hb
  go_enter Tryd.func26, Tryd.ntmps26
  go_wp2_with fail
  go_region
  all_goals
    go_wp2_with fail
    go_ret
    exact ⟨rfl, HM.out.drewN _⟩
theorem placeF_step (x : Tx) (p : Tx × Tx) (r : List (Tx × Tx)) (i : Nat) : placeF x (p :: r) i = if p.1 = x then (i : Int) else placeF x r (i + 1) := rfl
theorem idxFuncW (v : Value) (tab : List (Tx × Tx)) (gl bl n : Nat) (x : Tx) (w : World) (h : Has w w.heap.size 2 encK v tab) (hl : w.cell? ⟨bl, 0, none⟩ = some (.slice (some ⟨gl, 0, none⟩) n n)) (hn : 0 < n) (hx : w.cell? ⟨gl, 0, none⟩ = some (.string (tb x))) (ht : tab.length ≤ 1000) :
    Calls Tryd.prog 25 #[v, .func (.func 26) #[] #[.pointer (some ⟨bl, 0, none⟩)]] w fun e w' => e = .returned (.int .i64 (placeF x tab 0)) ∧ Mod (fun _ => False) w w' := by
  obtain ⟨A, cap, rfl, hcap⟩ := h.form
  have HH := Lib.hid h
  have hbl := block_lt_of_cell hl
  have hgl := block_lt_of_cell hx
  simp only at hbl hgl
  have HL := Lib.hid hl
  have HX := Lib.hid hx
  generalize hR : placeF x tab 0 = R
  have HR := Lib.hid hR
  generalize hN : tab.length = nT at *
  have HN := Lib.hid hN
  clear h hl hx hR hN
  go_enter Tryd.func25, Tryd.ntmps25
  go_wp2_with fail
  go_loopw [8] (fun i wr => ∃ q : Nat, i = .int .i64 q ∧ q ≤ nT ∧ Hid (placeF x (tab.drop q) q = R) ∧ Mod (fun _ => False) w wr) (fun i _ => nT - (RowKit.intOf i).toNat)
  case atStart => exact ⟨0, rfl, by omega, HR, Mod.refl _ _⟩
  case round =>
    obtain ⟨q, rfl, hq, hrel, hm⟩ := hrel
    by_cases hqn : q < nT
    · have hqx : q < tab.length := by rw [HN.out]; exact hqn
      have hs? := List.getElem?_eq_getElem hqx
      have hdr := List.drop_eq_getElem_cons hqx
      obtain ⟨g, off, rfl, hg, c0⟩ := (HH.out.later hm (Nat.le_refl _)).at_ encK_len hs?
      have c1 := c0 0 (by omega)
      have c2 := c0 1 (by omega)
      rw [hdr, placeF_step] at hrel
      generalize tab[q]'hqx = p at *
      have d1 : wr.cell? ⟨g, off + q * 2, none⟩ = some (.string (tb p.1)) := c1
      have d2 : wr.cell? ⟨g, off + q * 2 + 1, none⟩ = some (.string (tb p.2)) := c2
      have hqz : (q : Int) < (nT : Int) := by omega
      have hsm := hm.size
      have HCL := Lib.hid (closW gl 0 bl p x n wr ((hm.cell (p := ⟨bl, 0, none⟩) hbl (fun e => e)).trans HL.out) hn ((hm.cell (p := ⟨gl, 0, none⟩) hgl (fun e => e)).trans HX.out) (by omega) (by omega))
      have HM := Lib.hid hm
      clear c0 c1 c2 hm hs? hdr
      go_wp2_with fail
      refine HCL.out.mono ?_
      rintro e w5 ⟨rfl, m5⟩
      have HM5 := Lib.hid (HM.out.trans m5 (fun _ _ e => e))
      clear m5
      by_cases hp : p.1 = x
      · rw [if_pos hp] at hrel
        have hrr := hrel.out
        rw [decide_eq_true hp]
        clear hrel hp HR
        subst hrr
        go_wp2_with fail
        go_ret
        exact ⟨rfl, HM5.out⟩
      · rw [if_neg hp] at hrel
        rw [decide_eq_false hp]
        clear hp
        go_wp2_with fail
        go_roundw
        case rel => exact ⟨q + 1, by go_num, by omega, hrel, HM5.out⟩
        case measure => simp [RowKit.intOf]; omega
    · obtain rfl : nT = q := by omega
      rw [List.drop_eq_nil_of_le (by rw [HN.out]; exact Nat.le_refl _)] at hrel
      have hrr : (-1 : Int) = R := hrel.out
      have HM := Lib.hid hm
      clear hm hrel
      subst hrr
      go_wp2_with fail
      go_ret
      exact ⟨rfl, HM.out⟩
end Go.Proofs.YtpnicodjjbincaaDoor
