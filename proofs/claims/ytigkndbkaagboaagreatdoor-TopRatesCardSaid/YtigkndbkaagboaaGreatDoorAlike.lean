/- Two lists of integers that are alike. -/
import Derived.Test.YtigkndbkaagboaaGreatDoorRow2
import Derived.Test.YtigkndbkaagboaaGreatDoorRows
import Derived.Test.YtigkndbkaagboaaGreatDoorReg
import Derived.Lib.Hide
import Derived.Outline
import Derived.Deep.QuietTactic
import Derived.BigQuiet
namespace Go.Proofs.YtigkndbkaagboaaGreatDoor
open Go.RowKit
set_option linter.unusedVariables false
set_option maxHeartbeats 2000000
set_option maxRecDepth 100000
theorem Has.atI {w : World} {B : Nat} {A : Option Addr} {n cap : Nat} {zs : List Int} (h : Has w B 1 encI (.slice A n cap) zs) {i : Nat} {x : Int} (hi : zs[i]? = some x) :
    ∃ g off, A = some ⟨g, off, none⟩ ∧ g < B ∧ w.cell? ⟨g, off + i, none⟩ = some (.int .i64 x) := by
  obtain ⟨g, off, h1, h2, h3⟩ := h.at_ encI_len hi
  refine ⟨g, off, h1, h2, ?_⟩
  have := h3 0 (by omega)
  rw [Nat.mul_one, Nat.add_zero] at this
  exact this
end Go.Proofs.YtigkndbkaagboaaGreatDoor
