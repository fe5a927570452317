/- Hosts, leaves, spines: the plain functions. -/
import Derived.WalkKit
namespace Go.Proofs.YtflkdkghpoccgaaDoor
set_option linter.unusedVariables false
/-- What a net is made of. -/
def Okn (h lv s : Int) : Prop := 2 ≤ h ∧ h ≤ 8 ∧ lv = (h + 1) / 2 ∧ 1 ≤ s ∧ s ≤ 4
/-- How many ports. -/
def portsZ (h lv s : Int) : Int := 2 * h + 2 * lv * s
/-- What a port is, and its number among those. -/
def kindZ (h lv s p : Int) : Int × Int :=
  if p < 0 ∨ portsZ h lv s ≤ p then (0, 0) else if p < h then (1, p) else if p < 2 * h then (2, p - h) else if p < 2 * h + lv * s then (3, p - 2 * h) else (4, p - 2 * h - lv * s)
def leafZ (h x : Int) : Int := if x < 0 ∨ h ≤ x then -1 else x / 2
/-- Where a frame goes. -/
def nextZ (h lv s p d path : Int) : Int × Bool :=
  if (kindZ h lv s p).1 = 0 ∨ d < 0 ∨ h ≤ d then (-1, false)
  else if (kindZ h lv s p).1 = 2 then (-1, true)
  else if (kindZ h lv s p).1 = 3 then (2 * h + lv * s + (kindZ h lv s p).2 % s * lv + d / 2, false)
  else if (kindZ h lv s p).1 = 4 then (if d / 2 = (kindZ h lv s p).2 % lv then h + d else -1, false)
  else (if d / 2 = (kindZ h lv s p).2 / 2 then h + d else 2 * h + (kindZ h lv s p).2 / 2 * s + path % s, false)
def hopsZ (h a b : Int) : Int := if a < 0 ∨ h ≤ a ∨ b < 0 ∨ h ≤ b then 0 else if a / 2 = b / 2 then 2 else 4
theorem Okn.m {h lv s : Int} (o : Okn h lv s) : 1 ≤ lv ∧ lv ≤ 4 ∧ 1 ≤ lv * s ∧ lv * s ≤ 16 ∧ 2 * lv * s = 2 * (lv * s) := by
  obtain ⟨h1, h2, h3, h4, h5⟩ := o
  have hl : 1 ≤ lv ∧ lv ≤ 4 := by omega
  refine ⟨hl.1, hl.2, ?_, ?_, Int.mul_assoc _ _ _⟩
  · have := Int.mul_le_mul hl.1 h4 (by omega) (by omega); omega
  · have := Int.mul_le_mul hl.2 h5 (by omega) (by omega); omega
theorem tmod_pos {p s : Int} (hs : 0 < s) : (p.tmod s + s).tmod s = p % s := by
  have h1 : 0 ≤ p.tmod s + s := by
    have := Int.lt_tmod_of_pos p hs
    omega
  rw [Int.tmod_eq_emod_of_nonneg h1, Int.add_emod_right]
  rcases Int.le_total 0 p with h | h
  · rw [Int.tmod_eq_emod_of_nonneg h, Int.emod_emod]
  · obtain ⟨q, rfl⟩ : ∃ q, p = -q := ⟨-p, by omega⟩
    rw [Int.neg_tmod, Int.tmod_eq_emod_of_nonneg (by omega)]
    rw [Int.neg_emod, Int.neg_emod, Int.emod_emod]
    by_cases hd : s ∣ q
    · rw [if_pos hd, if_pos (by obtain ⟨k, rfl⟩ := hd; rw [Int.mul_emod_right]; exact Int.dvd_zero _)]
    · rw [if_neg hd, if_neg]
      intro hd2
      exact hd (Int.dvd_of_emod_eq_zero (by rw [← Int.emod_emod]; exact Int.emod_eq_zero_of_dvd hd2))
theorem tmod_bd {p s : Int} (hs : 0 < s) : -s < p.tmod s ∧ p.tmod s < s := ⟨Int.lt_tmod_of_pos p hs, Int.tmod_lt_of_pos p hs⟩
end Go.Proofs.YtflkdkghpoccgaaDoor
