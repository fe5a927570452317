/- mizzentop's awake(): run by the evaluator. -/
import Derived.Test.YtigkndbkaagboaaGreatDoorZG3
namespace Go.Proofs.YtigkndbkaagboaaGreatDoor
open Go.Proofs.YtigkndbkaagboaaGreatDoor.Ev Go.RowKit
open Go hiding Obj
theorem awTop_runs : awT (runF 7 [] S0) = true := by kernel_rfl
theorem awakeTop (w : World) (hp : Pow w) : Calls Tryz.prog 7 #[] w fun e w' => e = .returned (.bool true) ∧ Mod (fun _ => False) w w' :=
  (awake_of awTop_runs w (gl_of_pow hp)).mono fun _ _ ⟨h1, h2⟩ => ⟨h1, Mod.ofBelow h2⟩
end Go.Proofs.YtigkndbkaagboaaGreatDoor
