/- Plain facts on numbers held between limits. -/
import Derived.WalkKit
namespace Go.Proofs.YtigkndbkaagboaaGreatDoor
/-- A number within limits. -/
def clampZ (v lo hi : Int) : Int := if v < lo then lo else if hi < v then hi else v
/-- A number within 0 and the greatest time. -/
def wholeZ (v : Int) : Int := clampZ v 0 1125899906842624
/-- A sum within 0 and the greatest time. -/
def addZ (a b : Int) : Int := wholeZ (wholeZ a + wholeZ b)
theorem wholeZ_bd (v : Int) : 0 ≤ wholeZ v ∧ wholeZ v ≤ 1125899906842624 := by
  unfold wholeZ clampZ; constructor <;> (split <;> (try split) <;> omega)
theorem clampZ_bd (v lo hi : Int) (h : lo ≤ hi) : lo ≤ clampZ v lo hi ∧ clampZ v lo hi ≤ hi := by
  unfold clampZ; constructor <;> (split <;> (try split) <;> omega)
theorem addZ_bd (a b : Int) : 0 ≤ addZ a b ∧ addZ a b ≤ 1125899906842624 := wholeZ_bd _
theorem wholeZ_in {v : Int} (h : 0 ≤ v) (h2 : v ≤ 1125899906842624) : wholeZ v = v := by unfold wholeZ clampZ; rw [if_neg (by omega), if_neg (by omega)]
theorem addZ_in {a b : Int} (ha : 0 ≤ a) (hb : 0 ≤ b) (h : a + b ≤ 1125899906842624) : addZ a b = a + b := by
  unfold addZ; rw [wholeZ_in ha (by omega), wholeZ_in hb (by omega), wholeZ_in (by omega) h]
theorem clampZ_lt {v lo hi : Int} (h : v < lo) : clampZ v lo hi = lo := by unfold clampZ; rw [if_pos h]
theorem clampZ_gt {v lo hi : Int} (h : ¬ v < lo) (h2 : hi < v) : clampZ v lo hi = hi := by unfold clampZ; rw [if_neg h, if_pos h2]
theorem clampZ_in {v lo hi : Int} (h : ¬ v < lo) (h2 : ¬ hi < v) : clampZ v lo hi = v := by unfold clampZ; rw [if_neg h, if_neg h2]
theorem ret_int {k : IntKind} {a b : Int} (h : a = b) : Ending.returned (.int k a) = .returned (.int k b) := by rw [h]
end Go.Proofs.YtigkndbkaagboaaGreatDoor
