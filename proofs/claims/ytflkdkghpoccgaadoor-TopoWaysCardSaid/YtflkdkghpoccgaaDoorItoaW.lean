/- Small numbers' texts. -/
import Derived.Test.YtflkdkghpoccgaaDoorRows
import Derived.Test.YtflkdkghpoccgaaDoorDecP
import Derived.Test.YtflkdkghpoccgaaDoorReg
import Derived.WalkLawsBesides
import Derived.Outline
namespace Go.Proofs.YtflkdkghpoccgaaDoor
open Go.RowKit
set_option linter.unusedVariables false
set_option maxHeartbeats 2000000
set_option maxRecDepth 100000
/-- A number's text. -/
def decB (n : Nat) : ByteArray := strOfNums (dec n)
theorem smallW (n : Nat) (hn : n < 16) (w : World) :
    Calls Tryd.prog 31 #[.int .i64 n] w fun e w' => e = .returned (.string (decB n)) ∧ w' = w := by
  have hn0 : (0 : Int) ≤ n := by omega
  have hn1 : (n : Int) < 16 := by omega
  by_cases h : (n : Int) < 10
  · go_enter Tryd.func31, Tryd.ntmps31
    go_wp2
    rw [run_slice_string (h := Tryd.underlying9)]
    case h0 => omega
    case h1 => omega
    case h2 =>
      refine Int.le_trans (b := 36) (by omega) ?_
      decide +kernel
    go_wp2
    go_ret
    refine ⟨?_, rfl⟩
    refine congrArg (fun b => Ending.returned (.string b)) ?_
    rcases (show n = 0 ∨ n = 1 ∨ n = 2 ∨ n = 3 ∨ n = 4 ∨ n = 5 ∨ n = 6 ∨ n = 7 ∨ n = 8 ∨ n = 9 by omega) with rfl | rfl | rfl | rfl | rfl | rfl | rfl | rfl | rfl | rfl <;> decide +kernel
  · go_enter Tryd.func31, Tryd.ntmps31
    go_wp2
    rw [run_slice_string (h := Tryd.underlying9)]
    case h0 => omega
    case h1 => omega
    case h2 =>
      refine Int.le_trans (b := 200) (by omega) ?_
      decide +kernel
    go_wp2
    go_ret
    refine ⟨?_, rfl⟩
    refine congrArg (fun b => Ending.returned (.string b)) ?_
    rcases (show n = 10 ∨ n = 11 ∨ n = 12 ∨ n = 13 ∨ n = 14 ∨ n = 15 by omega) with rfl | rfl | rfl | rfl | rfl | rfl <;> decide +kernel
end Go.Proofs.YtflkdkghpoccgaaDoor
