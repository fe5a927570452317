/- Contracts of package num: sums and differences held at limits, and the least of two. -/
import Derived.Test.YtpcgfejdeanenaaNumW
import Derived.Test.YtpcgfejdeanenaaRow2
import Derived.Test.YtpcgfejdeanenaaAlike
namespace Go.Proofs.Ytpcgfejdeanenaa
open Go.RowKit
set_option linter.unusedVariables false
/-- A difference within 0 and the greatest time. -/
def subZ (a b : Int) : Int := wholeZ (wholeZ a - wholeZ b)
theorem numWhole (v : Int) (w : World) :
    Calls Try.prog 34 #[.int .i64 v] w fun e w' => e = .returned (.int .i64 (wholeZ v)) ∧ w = w' := by
  go_enter Try.func34, Try.ntmps34
  go_wp2_with (go_at_call 35; refine (numClamp _ _ _ _).mono ?_; rintro e w' ⟨rfl, rfl⟩)
  go_ret
  exact ⟨rfl, rfl⟩
theorem refHold (v : Int) (w : World) :
    Calls Try.prog 43 #[.int .i64 v] w fun e w' => e = .returned (.int .i64 (wholeZ v)) ∧ w = w' := by
  go_enter Try.func43, Try.ntmps43
  go_wp2_with (go_at_call 54; refine (refClamp _ _ _ _).mono ?_; rintro e w' ⟨rfl, rfl⟩)
  go_ret
  exact ⟨rfl, rfl⟩
theorem numAdd (a b : Int) (w : World) :
    Calls Try.prog 32 #[.int .i64 a, .int .i64 b] w fun e w' => e = .returned (.int .i64 (addZ a b)) ∧ w = w' := by
  have ha := wholeZ_bd a
  have hb := wholeZ_bd b
  go_enter Try.func32, Try.ntmps32
  go_wp2_with (go_at_call 34; refine (numWhole _ _).mono ?_; rintro e w' ⟨rfl, rfl⟩)
  go_ret
  exact ⟨rfl, rfl⟩
theorem numSub (a b : Int) (w : World) :
    Calls Try.prog 20 #[.int .i64 a, .int .i64 b] w fun e w' => e = .returned (.int .i64 (subZ a b)) ∧ w = w' := by
  have ha := wholeZ_bd a
  have hb := wholeZ_bd b
  go_enter Try.func20, Try.ntmps20
  go_wp2_with (go_at_call 34; refine (numWhole _ _).mono ?_; rintro e w' ⟨rfl, rfl⟩)
  go_ret
  exact ⟨rfl, rfl⟩
theorem refAdd1 (a b : Int) (w : World) :
    Calls Try.prog 33 #[.int .i64 a, .int .i64 b] w fun e w' => e = .returned (.int .i64 (addZ a b)) ∧ w = w' := by
  have ha := wholeZ_bd a
  have hb := wholeZ_bd b
  go_enter Try.func33, Try.ntmps33
  go_wp2_with (go_at_call 43; refine (refHold _ _).mono ?_; rintro e w' ⟨rfl, rfl⟩)
  go_ret
  exact ⟨rfl, rfl⟩
/-- The least of two. -/
theorem numMin2 (a b : Int) (g : Nat) (w : World) (hc : w.cell? ⟨g, 0, none⟩ = some (.int .i64 b)) :
    Calls Try.prog 36 #[.int .i64 a, .slice (some ⟨g, 0, none⟩) 1 1] w fun e w' => e = .returned (.int .i64 (min a b)) ∧ w = w' := by
  go_enter Try.func36, Try.ntmps36
  go_wp2_with fail
  go_loop [0, 9] (fun x i => (i = .int .i64 0 ∧ x = .int .i64 a) ∨ (i = .int .i64 1 ∧ x = .int .i64 (min a b))) (fun _ i => (1 - intOf i).toNat)
  case atStart => exact .inl ⟨rfl, rfl⟩
  case round =>
    rcases hrel with ⟨rfl, rfl⟩ | ⟨rfl, rfl⟩
    · go_wp2_with fail
      go_round
      case rel => exact .inr ⟨rfl, congrArg (Value.int .i64) (by split <;> omega)⟩
      case measure => simp [intOf]
    · go_wp2_with fail
      go_ret
      exact ⟨rfl, rfl⟩
end Go.Proofs.Ytpcgfejdeanenaa
