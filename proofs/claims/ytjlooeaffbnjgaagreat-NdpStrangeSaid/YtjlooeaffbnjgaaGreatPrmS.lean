/- The one function that the evaluator takes by its contract. -/
import Derived.Test.YtjlooeaffbnjgaaGreatApQ
namespace Go.Proofs.YtjlooeaffbnjgaaGreat
open Go.RowKit Go.Proofs.YtjlooeaffbnjgaaGreat.Ev
open Go hiding Obj
set_option linter.unusedVariables false
/-- No memory that is only read. -/
instance : Gl := ⟨[]⟩
theorem gl_any (w : World) : GlOk w := fun p hp => by cases hp
noncomputable def prE : Prims := fun f => bif Nat.beq f 147 then some apIns else none
theorem prE_ok : PrimOk Tryz.prog prE := by
  intro f g hf args S v S' hg r w args' hr ha
  unfold prE at hf
  cases h1 : Nat.beq f 147 with
  | true =>
    rw [h1] at hf
    simp only [cond_true, Option.some.injEq] at hf
    subst hf
    obtain rfl := beq0 h1
    exact apIns_ok hg hr ha
  | false => rw [h1] at hf; cases hf
end Go.Proofs.YtjlooeaffbnjgaaGreat
