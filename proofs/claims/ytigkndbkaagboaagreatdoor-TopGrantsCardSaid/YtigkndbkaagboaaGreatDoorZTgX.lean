/- TopGrants, whatever comes in. -/
import Derived.Test.YtigkndbkaagboaaGreatDoorZTgW
import Derived.Test.YtigkndbkaagboaaGreatDoorTeE
import Derived.WalkKit
namespace Go.Proofs.YtigkndbkaagboaaGreatDoor
open Go.ChangeShapes Go.WideShapes Go.RowKit
set_option linter.unusedVariables false
set_option maxHeartbeats 2000000
set_option maxRecDepth 100000
theorem walk_tgBig (A : Option Addr) (n cap : Nat) (k budget share : Int) (w : World) (hp : Pow w) (hl : 40 < n) :
    Calls Tryz.prog 3 #[.slice A n cap, .int .i64 k, .int .i64 budget, .int .i64 share] w fun e w' => e = .returned (.bool true) ∧ Mod (fun _ => False) w w' := by
  have hl' : (40 : Int) < (n : Int) := by omega
  have HC := Lib.hid (awakeTop w hp)
  clear hp
  go_enter Tryz.func3, Tryz.ntmps3
  go_wp2_with fail
  refine HC.out.mono ?_
  rintro e w1 ⟨rfl, m1⟩
  go_wp2_with fail
  go_ret
  exact ⟨rfl, m1⟩
theorem walk_topGrants {v : Value} (w : World) (E : EnvT w) (ms : List Ms) (w0 : Mss w v ms) (k : Int) (w1 : (Lit.int .i64 k).wf = true) (budget : Int) (w2 : (Lit.int .i64 budget).wf = true) (share : Int) (w3 : (Lit.int .i64 share).wf = true) :
    Calls Tryz.prog 3 #[v, .int .i64 k, .int .i64 budget, .int .i64 share] w fun e w' => e = .returned (.bool true) ∧ Below w.heap.size w w' := by
  have key : Calls Tryz.prog 3 #[v, .int .i64 k, .int .i64 budget, .int .i64 share] w fun e w' => e = .returned (.bool true) ∧ Mod (fun _ => False) w w' := by
    by_cases hl : ms.length ≤ 40
    · exact walk_tg v ms k budget share w E.pow w0.1 hl
    · obtain ⟨A, cap, rfl, _⟩ := w0.1.form
      exact walk_tgBig A _ cap k budget share w E.pow (by omega)
  exact key.mono fun e w' ⟨he, hm⟩ => ⟨he, hm.below⟩
theorem open_topGrants_l {H : Type} {enc : TypeId × Value → H} {w : World} {v : Value} {d : DataW H} {p : List MemPlace}
    (hv : Value.okWide Tryz.prog w .any 0 22 v) (h : DataW.Trod enc Tryz.prog w 0 (fun _ => true) true 22 v d p) : ∃ ms : List Ms, Mss w v ms := open_msgs hv h
end Go.Proofs.YtigkndbkaagboaaGreatDoor
