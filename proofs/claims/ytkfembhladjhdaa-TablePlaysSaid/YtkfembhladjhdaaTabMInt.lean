/- Contracts of a table of int: how many there may be. -/
import Derived.Test.YtkfembhladjhdaaTabWInt
namespace Go.Proofs.Ytkfembhladjhdaa.TabInt
open Go.RowKit
set_option linter.unusedVariables false
theorem mostNone (w : World) :
    Calls Try.prog 33 #[.pointer none] w fun e w' => e = .returned (.int .i64 0) ∧ w = w' := by
  go_enter Try.func33, Try.ntmps33
  go_wp2
  go_ret
  exact ⟨rfl, rfl⟩
theorem mostW (bt bs : Nat) (most n : Int) (s : List (Option ((Int × Int) × Int))) (w : World) (h : Mem w bt bs most n s) :
    Calls Try.prog 33 #[.pointer (some ⟨bt, 0, none⟩)] w fun e w' => e = .returned (.int .i64 most) ∧ w = w' := by
  have hc := h.top.cell
  go_enter Try.func33, Try.ntmps33
  go_wp2
  go_ret
  exact ⟨rfl, rfl⟩
end Go.Proofs.Ytkfembhladjhdaa.TabInt
