/- 'mizzenlaw28.ShellRefused': the closed facts of its frame: they hang on the program's text alone. -/
import Derived.WalkKit
import Derived.ProofKit
import Derived.OpenShut
import Derived.ShutString
import Derived.ChangeOld
import Derived.Below
import Derived.LaidMore
import Derived.Lay
import Derived.Stop.Joined
import Derived.SevenTiedAt
import Derived.Test.YtcandpiafgicbaaGreatDoorFacA
import Derived.Test.YtcandpiafgicbaaGreatDoorCards
namespace Go.Proofs.YtcandpiafgicbaaGreatDoor.shellRefused
open Go.ChangeShapes Go.WideShapes Go.ChangeAt Go.RowKit
open Go.ChangeMaps (open_string shut_string)
set_option linter.unusedVariables false
theorem own : ownKnob Tryz.prog.godebug = none := by kernel_rfl
theorem laidOut : laidOutB Tryz.prog = true := by kernel_rfl
set_option maxRecDepth 100000 in
theorem door_met (os : Os) (args : Array Value) : laidMetH Tryz.prog Rows.shellRefusedRow.laid ((World.laidAll Tryz.prog os Rows.shellRefusedRow.laid).forCall (fun _ _ => 0) ⟨#[], args, []⟩).memory :=
  by rw [MakeChecks.laidMetH_plain _ _ _ (by kernel_rfl)]; exact laidMet_laidAll _ (by kernel_rfl) (by kernel_rfl)
set_option maxHeartbeats 40000000 in
/-- The row's closed facts, one by one (in one piece they want more memory than there is). -/
theorem closedF : joinedFacts Tryz.pinned.checked.prog 3 Tryz.f3 Rows.shellRefusedSpec Rows.shellRefusedRow = true := by
  unfold joinedFacts
  simp only [Bool.and_eq_true]
  repeat' apply And.intro
  all_goals as_aux_lemma => kernel_rfl
theorem facW : Rows.shellRefusedRow.wfByText (OpenSpec.ofChange Rows.shellRefusedSpec) = true := by kernel_rfl
theorem facG : false = Rows.shellRefusedRow.goesBy Tryz.pinned.checked.prog := facGoes _ rfl
theorem facF : Tryz.prog.funcNamed Rows.shellRefusedRow.func = some 3 := by kernel_rfl
theorem facS : ([3].all fun u => !Tryz.prog.wantsStandIn u) = true := by kernel_rfl
theorem facP (f : FuncId) (fn : Func) (hf : Tryz.pinned.checked.prog.funcNamed Rows.shellRefusedRow.func = some f) (hfn : Tryz.pinned.checked.prog.funcs[f]? = some fn) :
    true = Tryz.pinned.checked.prog.looks [] ∧ ∀ (j : Nat) t, fn.params[j]? = some t → Tryz.pinned.checked.prog.wantsStandIn t = false := by
  obtain rfl : f = 3 := Option.some.inj (facF.symm.trans hf) |>.symm
  obtain rfl : fn = Tryz.f3 := (Option.some.inj (Tryz.func3.symm.trans hfn)).symm
  exact ⟨facLooks, fun j t ht => by
    rw [Tryz.params3] at ht
    have hm : t ∈ [3] := by simpa using Array.mem_of_getElem? ht
    exact (show Tryz.prog.wantsStandIn t = false by simpa using List.all_eq_true.1 facS t hm)⟩
end Go.Proofs.YtcandpiafgicbaaGreatDoor.shellRefused
