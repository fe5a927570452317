/- awake(): a host of each kind plays, from whatever memory: run by the evaluator. -/
import Derived.Test.YtgimdacbdniemaaGreatTrnP
import Derived.Test.YtgimdacbdniemaaGreatTrnT
import Derived.Test.YtgimdacbdniemaaGreatChecked
namespace Go.Proofs.YtgimdacbdniemaaGreat
open Go.Proofs.YtgimdacbdniemaaGreat.Ev Go.RowKit
noncomputable def awR : RS := callF Tryz.prog prZ (evF Tryz.prog prZ tab 5000) 4 [] ⟨Hp.nil, 0⟩
def isT (v : Value) : Bool := match v with | .bool true => true | _ => false
theorem isT_eq {v : Value} (h : isT v = true) : v = .bool true := by
  unfold isT at h
  split at h
  · rfl
  · cases h
noncomputable def awT (r : RS) : Bool := @Option.rec (Value × St) (fun _ => Bool) false (fun p => @Prod.rec Value St (fun _ => Bool) (fun v _ => isT v) p) r
theorem aw_runs : awT awR = true := by kernel_rfl
theorem awakeT (w : World) : Calls Tryz.prog 4 #[] w fun e w' => e = .returned (.bool true) ∧ Below w.heap.size w w' := by
  have h := aw_runs
  cases hr : awR with
  | none => rw [hr] at h; cases h
  | some p =>
    obtain ⟨v, S⟩ := p
    rw [hr] at h
    obtain rfl : v = .bool true := isT_eq h
    exact closed_callF (Checked.mixed Tryz.checked) prZ_ok tab_ok 5000 hr rfl w
end Go.Proofs.YtgimdacbdniemaaGreat
