/- The walk of TablePlays, whatever comes. -/
import Derived.Test.YtkfembhladjhdaaPlayB
namespace Go.Proofs.Ytkfembhladjhdaa
open Go.ChangeShapes Go.WideShapes Go.RowKit
set_option linter.unusedVariables false
set_option maxRecDepth 100000
/-- Steps that came in. -/
def Sts (w : World) (v : Value) (ss : List St) : Prop := Has w w.heap.size 4 encS v ss ∧ ss.length ≤ 9223372036854775807 ∧ ∀ s ∈ ss, s.v.size ≤ maxLen
theorem open_tablePlays_l {H : Type} {enc : TypeId × Value → H} {w : World} {v : Value} {d : DataW H} {p : List MemPlace}
    (hv : Value.okWide Try.prog w .any 0 36 v) (h : DataW.Trod enc Try.prog w 0 (fun _ => true) true 36 v d p) : ∃ ss : List St, Sts w v ss :=
  open_steps Try.underlying36 Try.underlying39 (by kernel_rfl) (by kernel_rfl) rfl (fun j f hj => by
    rcases (by have := (Array.getElem?_eq_some_iff.1 hj).1; simp at this; omega : j = 0 ∨ j = 1 ∨ j = 2 ∨ j = 3) with rfl | rfl | rfl | rfl <;> (obtain rfl := Option.some.inj hj; first | exact Try.underlying3 | exact Try.underlying22 | exact Try.underlying9)) hv h
theorem walk_tablePlays {v : Value} (w : World) (most : Int) (w0 : (Lit.int .i64 most).wf = true) (ss : List St) (w1 : Sts w v ss) :
    Calls Try.prog 4 #[.int .i64 most, v] w fun e w' => e = .returned (.bool true) ∧ Below w.heap.size w w' :=
  (walk_plays most v ss w w1.1 w1.2.2 w1.2.1).mono fun e w' ⟨he, hm⟩ => ⟨he, hm.below⟩
end Go.Proofs.Ytkfembhladjhdaa
