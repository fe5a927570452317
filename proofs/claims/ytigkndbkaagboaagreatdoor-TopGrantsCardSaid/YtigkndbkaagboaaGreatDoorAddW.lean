/- Contracts of package num: sums and differences held at limits, and the least of two. -/
import Derived.Test.YtigkndbkaagboaaGreatDoorNumW
import Derived.Test.YtigkndbkaagboaaGreatDoorRow2
import Derived.Test.YtigkndbkaagboaaGreatDoorAlike
namespace Go.Proofs.YtigkndbkaagboaaGreatDoor
open Go.RowKit
set_option linter.unusedVariables false
/-- A difference within 0 and the greatest time. -/
def subZ (a b : Int) : Int := wholeZ (wholeZ a - wholeZ b)
theorem numWhole (v : Int) (w : World) :
    Calls Tryz.prog 81 #[.int .i64 v] w fun e w' => e = .returned (.int .i64 (wholeZ v)) ∧ w = w' := by
  go_enter Tryz.func81, Tryz.ntmps81
  go_wp2_with (go_at_call 50; refine (numClamp _ _ _ _).mono ?_; rintro e w' ⟨rfl, rfl⟩)
  go_ret
  exact ⟨rfl, rfl⟩
theorem refHold (v : Int) (w : World) :
    Calls Tryz.prog 96 #[.int .i64 v] w fun e w' => e = .returned (.int .i64 (wholeZ v)) ∧ w = w' := by
  go_enter Tryz.func96, Tryz.ntmps96
  go_wp2_with (go_at_call 55; refine (refClamp _ _ _ _).mono ?_; rintro e w' ⟨rfl, rfl⟩)
  go_ret
  exact ⟨rfl, rfl⟩
theorem numAdd (a b : Int) (w : World) :
    Calls Tryz.prog 82 #[.int .i64 a, .int .i64 b] w fun e w' => e = .returned (.int .i64 (addZ a b)) ∧ w = w' := by
  have ha := wholeZ_bd a
  have hb := wholeZ_bd b
  go_enter Tryz.func82, Tryz.ntmps82
  go_wp2_with (go_at_call 81; refine (numWhole _ _).mono ?_; rintro e w' ⟨rfl, rfl⟩)
  go_ret
  exact ⟨rfl, rfl⟩
theorem numSub (a b : Int) (w : World) :
    Calls Tryz.prog 34 #[.int .i64 a, .int .i64 b] w fun e w' => e = .returned (.int .i64 (subZ a b)) ∧ w = w' := by
  have ha := wholeZ_bd a
  have hb := wholeZ_bd b
  go_enter Tryz.func34, Tryz.ntmps34
  go_wp2_with (go_at_call 81; refine (numWhole _ _).mono ?_; rintro e w' ⟨rfl, rfl⟩)
  go_ret
  exact ⟨rfl, rfl⟩
theorem refAdd1 (a b : Int) (w : World) :
    Calls Tryz.prog 85 #[.int .i64 a, .int .i64 b] w fun e w' => e = .returned (.int .i64 (addZ a b)) ∧ w = w' := by
  have ha := wholeZ_bd a
  have hb := wholeZ_bd b
  go_enter Tryz.func85, Tryz.ntmps85
  go_wp2_with (go_at_call 96; refine (refHold _ _).mono ?_; rintro e w' ⟨rfl, rfl⟩)
  go_ret
  exact ⟨rfl, rfl⟩
/-- The least of two. -/
theorem numMin2 (a b : Int) (g : Nat) (w : World) (hc : w.cell? ⟨g, 0, none⟩ = some (.int .i64 b)) :
    Calls Tryz.prog 83 #[.int .i64 a, .slice (some ⟨g, 0, none⟩) 1 1] w fun e w' => e = .returned (.int .i64 (min a b)) ∧ w = w' := by
  go_enter Tryz.func83, Tryz.ntmps83
  go_wp2_with fail
  go_loop [0, 9] (fun x i => (i = .int .i64 0 ∧ x = .int .i64 a) ∨ (i = .int .i64 1 ∧ x = .int .i64 (min a b))) (fun _ i => (1 - intOf i).toNat)
  case atStart => exact .inl ⟨rfl, rfl⟩
  case round =>
    rcases hrel with ⟨rfl, rfl⟩ | ⟨rfl, rfl⟩
    · go_wp2_with fail
      go_round
      case rel => exact .inr ⟨rfl, congrArg (Value.int .i64) (by split <;> omega)⟩
      case measure => simp [intOf]
    · go_wp2_with fail
      go_ret
      exact ⟨rfl, rfl⟩
end Go.Proofs.YtigkndbkaagboaaGreatDoor
