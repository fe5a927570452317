/- The way of a frame; the walk of TopoWays. -/
import Derived.Test.YtflkdkghpoccgaaDoorTopoA
import Derived.Test.YtflkdkghpoccgaaDoorRow
namespace Go.Proofs.YtflkdkghpoccgaaDoor
open Go.RowKit
set_option linter.unusedVariables false
set_option maxHeartbeats 8000000
set_option maxRecDepth 100000
section
variable {h lv s : Int}
theorem kind_up (o : Okn h lv s) {a : Int} (a0 : 0 ≤ a) (a1 : a < h) : kindZ h lv s a = (1, a) := by
  have := portsZ_eq o
  have := o.m
  have := o.1
  unfold kindZ
  rw [if_neg (by omega), if_pos a1]
theorem kind_dn (o : Okn h lv s) {d : Int} (d0 : 0 ≤ d) (d1 : d < h) : kindZ h lv s (h + d) = (2, d) := by
  have := portsZ_eq o
  have := o.m
  have := o.1
  unfold kindZ
  rw [if_neg (by omega), if_neg (by omega), if_pos (by omega)]
  rw [show h + d - h = d by omega]
theorem kind_lf (o : Okn h lv s) {k : Int} (k0 : 0 ≤ k) (k1 : k < lv * s) : kindZ h lv s (2 * h + k) = (3, k) := by
  have := portsZ_eq o
  have := o.m
  have := o.1
  unfold kindZ
  rw [if_neg (by omega), if_neg (by omega), if_neg (by omega), if_pos (by omega)]
  rw [show 2 * h + k - 2 * h = k by omega]
theorem kind_sp (o : Okn h lv s) {k : Int} (k0 : 0 ≤ k) (k1 : k < lv * s) : kindZ h lv s (2 * h + lv * s + k) = (4, k) := by
  have := portsZ_eq o
  have := o.m
  have := o.1
  unfold kindZ
  rw [if_neg (by omega), if_neg (by omega), if_neg (by omega), if_neg (by omega)]
  rw [show 2 * h + lv * s + k - 2 * h - lv * s = k by omega]
/-- The way of a frame, port by port. -/
def Way (h lv s d path : Int) (n : Nat) (R : Nat → Int) : Prop :=
  R n = -1 ∧ ∀ j, j < n → 0 ≤ R j ∧ R j < portsZ h lv s ∧ nextZ h lv s (R j) d path = (R (j + 1), decide (j + 1 = n)) ∧ ∀ i, i < j → R i ≠ R j
theorem way_law (o : Okn h lv s) {a d : Int} (path : Int) (a0 : 0 ≤ a) (a1 : a < h) (d0 : 0 ≤ d) (d1 : d < h) (hne : a ≠ d) :
    ∃ n R, hopsZ h a d = ((n : Nat) : Int) ∧ (((n : Nat) : Int) == 2) = (leafZ h a == leafZ h d) ∧ R 0 = a ∧ n ≤ 4 ∧ Way h lv s d path n R := by
  have hP := portsZ_eq o
  have hm := o.m
  have o' := o
  obtain ⟨h1, h2, h3, h4, h5⟩ := o'
  have la : leafZ h a = a / 2 := by unfold leafZ; rw [if_neg (by omega)]
  have ld : leafZ h d = d / 2 := by unfold leafZ; rw [if_neg (by omega)]
  have ka := kind_up o a0 a1
  have kd := kind_dn o d0 d1
  have nd : nextZ h lv s (h + d) d path = (-1, true) := by
    unfold nextZ
    rw [kd, if_neg (by simp; omega), if_pos rfl]
  by_cases e : a / 2 = d / 2
  · refine ⟨2, fun j => if j = 0 then a else if j = 1 then h + d else -1, ?_, ?_, rfl, by omega, rfl, ?_⟩
    · unfold hopsZ; rw [if_neg (by omega), if_pos e]; rfl
    · rw [la, ld, e]; simp
    · intro j hj
      have na : nextZ h lv s a d path = (h + d, false) := by
        unfold nextZ
        rw [ka, if_neg (by simp; omega), if_neg (by simp), if_neg (by simp), if_neg (by simp), if_pos e.symm]
      rcases (show j = 0 ∨ j = 1 by omega) with rfl | rfl
      · refine ⟨a0, by simp; omega, by simpa using na, fun i hi => by omega⟩
      · refine ⟨by simp; omega, by simp; omega, by simpa using nd, fun i hi => ?_⟩
        rcases (show i = 0 by omega) with rfl
        simp; omega
  · generalize hq : path % s = q
    have q0 : 0 ≤ q := hq ▸ Int.emod_nonneg _ (by omega)
    have q1 : q < s := hq ▸ Int.emod_lt_of_pos _ (by omega)
    have b1 : a / 2 * s ≤ (lv - 1) * s := Int.mul_le_mul_of_nonneg_right (by omega) (by omega)
    have b2 : q * lv ≤ (s - 1) * lv := Int.mul_le_mul_of_nonneg_right (by omega) (by omega)
    have b3 : 0 ≤ a / 2 * s := Int.mul_nonneg (by omega) (by omega)
    have b4 : 0 ≤ q * lv := Int.mul_nonneg q0 (by omega)
    rw [Int.sub_mul, Int.one_mul] at b1 b2
    rw [Int.mul_comm s lv] at b2
    have kl := kind_lf o (k := a / 2 * s + q) (by omega) (by omega)
    have ks := kind_sp o (k := q * lv + d / 2) (by omega) (by omega)
    have m1 : (a / 2 * s + q) % s = q := by rw [Int.add_comm, Int.add_mul_emod_self_right, Int.emod_eq_of_lt q0 q1]
    have m2 : (q * lv + d / 2) % lv = d / 2 := by rw [Int.add_comm, Int.add_mul_emod_self_right, Int.emod_eq_of_lt (by omega) (by omega)]
    have na : nextZ h lv s a d path = (2 * h + (a / 2 * s + q), false) := by
      unfold nextZ
      rw [ka, if_neg (by simp; omega), if_neg (by simp), if_neg (by simp), if_neg (by simp), if_neg (fun x => e x.symm), hq, Int.add_assoc]
    have nl : nextZ h lv s (2 * h + (a / 2 * s + q)) d path = (2 * h + lv * s + (q * lv + d / 2), false) := by
      unfold nextZ
      rw [kl, if_neg (by simp; omega), if_neg (by simp), if_pos rfl]
      simp only [m1, Int.add_assoc]
    have ns : nextZ h lv s (2 * h + lv * s + (q * lv + d / 2)) d path = (h + d, false) := by
      unfold nextZ
      rw [ks, if_neg (by simp; omega), if_neg (by simp), if_neg (by simp), if_pos rfl]
      simp only [m2, if_true]
    refine ⟨4, fun j => if j = 0 then a else if j = 1 then 2 * h + (a / 2 * s + q) else if j = 2 then 2 * h + lv * s + (q * lv + d / 2) else if j = 3 then h + d else -1, ?_, ?_, rfl, by omega, rfl, ?_⟩
    · unfold hopsZ; rw [if_neg (by omega), if_neg e]; rfl
    · rw [la, ld]
      rw [show (a / 2 == d / 2) = false by rw [beq_eq_false_iff_ne]; exact e]
      rfl
    · intro j hj
      rcases (show j = 0 ∨ j = 1 ∨ j = 2 ∨ j = 3 by omega) with rfl | rfl | rfl | rfl
      · refine ⟨a0, by simp; omega, by simpa using na, fun i hi => by omega⟩
      · refine ⟨by simp; omega, by simp; omega, by simpa using nl, fun i hi => ?_⟩
        rcases (show i = 0 by omega) with rfl
        simp; omega
      · refine ⟨by simp; omega, by simp; omega, by simpa using ns, fun i hi => ?_⟩
        rcases (show i = 0 ∨ i = 1 by omega) with rfl | rfl <;> simp <;> omega
      · refine ⟨by simp; omega, by simp; omega, by simpa using nd, fun i hi => ?_⟩
        rcases (show i = 0 ∨ i = 1 ∨ i = 2 by omega) with rfl | rfl | rfl <;> simp <;> omega
end
end Go.Proofs.YtflkdkghpoccgaaDoor
