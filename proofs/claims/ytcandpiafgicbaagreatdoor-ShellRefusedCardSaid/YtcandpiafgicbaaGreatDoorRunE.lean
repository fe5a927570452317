/- Closed calls by the evaluator. -/
import Derived.Test.YtcandpiafgicbaaGreatDoorPrimE
import Derived.Test.YtcandpiafgicbaaGreatDoorTabE
import Derived.Test.YtcandpiafgicbaaGreatDoorChecked
namespace Go.Proofs.YtcandpiafgicbaaGreatDoor
open Go.Proofs.YtcandpiafgicbaaGreatDoor.Ev Go.RowKit
open Go hiding Obj
/-- The evaluator's call. -/
noncomputable abbrev runF : CallF := callF Tryz.prog prE (evF Tryz.prog prE tab 5000)
def isT (v : Value) : Bool := match v with | .bool true => true | _ => false
theorem isT_eq {v : Value} (h : isT v = true) : v = .bool true := by
  unfold isT at h
  split at h
  · rfl
  · cases h
noncomputable def awT (r : RS) : Bool := @Option.rec (Value × St) (fun _ => Bool) false (fun p => @Prod.rec Value St (fun _ => Bool) (fun v _ => isT v) p) r
theorem awake_of {f : FuncId} (h : awT (runF f [] S0) = true) (w : World) (hG : GlOk w) : Calls Tryz.prog f #[] w fun e w' => e = .returned (.bool true) ∧ Below w.heap.size w w' := by
  generalize hr : runF f [] S0 = q at h
  cases q with
  | none => cases h
  | some p =>
    obtain ⟨v, S⟩ := p
    obtain rfl : v = .bool true := isT_eq h
    exact closed_callF (Checked.mixed Tryz.checked) prE_ok tab_ok 5000 hr rfl w hG
end Go.Proofs.YtcandpiafgicbaaGreatDoor
