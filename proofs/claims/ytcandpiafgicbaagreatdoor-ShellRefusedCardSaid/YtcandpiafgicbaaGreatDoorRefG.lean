/- A closed run that answers a text: its contract. -/
import Derived.Test.YtcandpiafgicbaaGreatDoorRunE
import Derived.Test.YtcandpiafgicbaaGreatDoorShlA
namespace Go.Proofs.YtcandpiafgicbaaGreatDoor
open Go.Proofs.YtcandpiafgicbaaGreatDoor.Ev Go.RowKit
open Go hiding Obj
set_option linter.unusedVariables false
set_option maxRecDepth 100000
/-- The answer is r, and nothing that was has changed. -/
def ansP (r : ByteArray) (w : World) (e : Ending) (w' : World) : Prop := e = .returned (.string r) ∧ Mod (fun _ => False) w w'
theorem strG {f : FuncId} {args : List Value} {r : ByteArray} {S : St} (h : runF f args S0 = some (.string r, S)) (hp : args.all plain = true) (w : World) (hw : Pow w) :
    Calls Tryz.prog f ⟨args⟩ w (ansP r w) :=
  (closed_callA (Checked.mixed Tryz.checked) prE_ok tab_ok 5000 h hp rfl w (gl_of_pow hw)).mono fun _ _ ⟨h1, h2⟩ => ⟨h1, Mod.ofBelow h2⟩
theorem strH {f : FuncId} {args : List Value} {r : ByteArray} (h : (match runF f args S0 with | some (v, _) => veq v (.string r) | none => false) = true) (hp : args.all plain = true) (w : World) (hw : Pow w) :
    Calls Tryz.prog f ⟨args⟩ w (ansP r w) := by
  generalize hr : runF f args S0 = q at h
  cases q with
  | none => cases h
  | some p =>
    obtain ⟨v, S⟩ := p
    obtain rfl := veq_eq h
    exact strG hr hp w hw
theorem ans_cast {f : FuncId} {a b : List Value} {r r' : ByteArray} {w : World} (ha : b = a) (hr : r' = r) (h : Calls Tryz.prog f ⟨a⟩ w (ansP r w)) : Calls Tryz.prog f ⟨b⟩ w (ansP r' w) := by
  subst ha hr
  exact h
theorem bApp (a b : List UInt8) : (⟨a.toArray⟩ : ByteArray) ++ ⟨b.toArray⟩ = ⟨(a ++ b).toArray⟩ := by
  apply ByteArray.ext
  rw [ByteArray.data_append]
  simp
theorem ba_of {a b : List UInt8} (h : a = b) : (⟨a.toArray⟩ : ByteArray) = ⟨b.toArray⟩ := by rw [h]
theorem str_of {a b : List UInt8} (h : a = b) : [Value.string ⟨a.toArray⟩] = [Value.string ⟨b.toArray⟩] := by rw [h]
end Go.Proofs.YtcandpiafgicbaaGreatDoor
