/- mizzenlaw28's awake(): run by the evaluator. -/
import Derived.Test.YtcandpiafgicbaaGreatDoorRunE
namespace Go.Proofs.YtcandpiafgicbaaGreatDoor
open Go.Proofs.YtcandpiafgicbaaGreatDoor.Ev Go.RowKit
open Go hiding Obj
theorem awShl_runs : awT (runF 9 [] S0) = true := by kernel_rfl
theorem awakeShl (w : World) (hp : Pow w) : Calls Tryz.prog 9 #[] w fun e w' => e = .returned (.bool true) ∧ Mod (fun _ => False) w w' :=
  (awake_of awShl_runs w (gl_of_pow hp)).mono fun _ _ ⟨h1, h2⟩ => ⟨h1, Mod.ofBelow h2⟩
end Go.Proofs.YtcandpiafgicbaaGreatDoor
