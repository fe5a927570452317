/- Contracts of package num. -/
import Derived.Test.YtigkndbkaagboaaGreatDoorRows
import Derived.Test.YtigkndbkaagboaaGreatDoorNumP
import Derived.WalkKit
import Derived.Lib.Hide
import Derived.Outline
import Derived.Deep.QuietTactic
import Derived.BigQuiet
namespace Go.Proofs.YtigkndbkaagboaaGreatDoor
open Go.RowKit
set_option linter.unusedVariables false
theorem numClamp (v lo hi : Int) (w : World) :
    Calls Tryz.prog 50 #[.int .i64 v, .int .i64 lo, .int .i64 hi] w fun e w' => e = .returned (.int .i64 (clampZ v lo hi)) ∧ w = w' := by
  go_enter Tryz.func50, Tryz.ntmps50
  go_wp2
  · go_ret
    exact ⟨ret_int (clampZ_lt (by assumption)).symm, rfl⟩
  · go_ret
    exact ⟨ret_int (clampZ_gt (by omega) (by assumption)).symm, rfl⟩
  · go_ret
    exact ⟨ret_int (clampZ_in (by omega) (by omega)).symm, rfl⟩
theorem refClamp (v lo hi : Int) (w : World) :
    Calls Tryz.prog 55 #[.int .i64 v, .int .i64 lo, .int .i64 hi] w fun e w' => e = .returned (.int .i64 (clampZ v lo hi)) ∧ w = w' := by
  go_enter Tryz.func55, Tryz.ntmps55
  go_wp2
  · go_ret
    exact ⟨ret_int (clampZ_lt (by assumption)).symm, rfl⟩
  · go_ret
    exact ⟨ret_int (clampZ_gt (by omega) (by assumption)).symm, rfl⟩
  · go_ret
    exact ⟨ret_int (clampZ_in (by omega) (by omega)).symm, rfl⟩
end Go.Proofs.YtigkndbkaagboaaGreatDoor
