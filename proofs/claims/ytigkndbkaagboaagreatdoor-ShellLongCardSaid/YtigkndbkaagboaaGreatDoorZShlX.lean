/- ShellLong: the walk as its frame wants it. -/
import Derived.Test.YtigkndbkaagboaaGreatDoorZShlW
import Derived.WalkKit
namespace Go.Proofs.YtigkndbkaagboaaGreatDoor
open Go.ChangeShapes Go.WideShapes Go.RowKit
set_option linter.unusedVariables false
theorem walk_shellLongF (w : World) (E : EnvT w) (s : ByteArray) {q : Prop} (w0 : q) (n : Int) (w1 : (Lit.int .i64 n).wf = true) :
    Calls Tryz.prog 6 #[.string s, .int .i64 n] w fun e w' => e = .returned (.bool true) ∧ Below w.heap.size w w' :=
  (walk_shellLong s n w E).mono fun e w' ⟨he, hm⟩ => ⟨he, hm.below⟩
end Go.Proofs.YtigkndbkaagboaaGreatDoor
