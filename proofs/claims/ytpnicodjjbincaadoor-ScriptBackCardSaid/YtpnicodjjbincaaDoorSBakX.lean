/- The walk of ScriptBack, whatever op comes in. -/
import Derived.Test.YtpnicodjjbincaaDoorSOpE
namespace Go.Proofs.YtpnicodjjbincaaDoor
open Go.RowKit
set_option linter.unusedVariables false
set_option maxRecDepth 100000
/-- An op that came in. -/
def InO (w : World) (v : Value) (o : OpT) : Prop := ∃ dv, v = .agg (opV o dv) ∧ Has w w.heap.size 1 encB dv o.data
theorem open_scriptBack_o {H : Type} {enc : TypeId × Value → H} {w : World} {v : Value} {d : DataW H} {p : List MemPlace}
    (hv : Value.okWide Tryd.prog w .any 0 24 v) (h : DataW.Trod enc Tryd.prog w 0 (fun _ => true) true 24 v d p) : ∃ o : OpT, InO w v o := by
  obtain ⟨o, dv, e, hh⟩ := open_op hv h
  exact ⟨o, dv, e, hh⟩
theorem walk_scriptBack {v : Value} (w : World) (E : Env w) (o : OpT) (h : InO w v o) : Calls Tryd.prog 4 #[v] w fun e w' => e = .returned (.bool true) ∧ Below w.heap.size w w' := by
  obtain ⟨dv, rfl, hh⟩ := h
  exact (walk_backs o dv w E hh).mono fun e w' ⟨he, hm⟩ => ⟨he, hm.below⟩
end Go.Proofs.YtpnicodjjbincaaDoor
