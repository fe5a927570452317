/- The walk of SrptBudget, whatever comes. -/
import Derived.Test.YtpcgfejdeanenaaSrY
namespace Go.Proofs.Ytpcgfejdeanenaa
open Go.ChangeShapes Go.WideShapes Go.RowKit
set_option linter.unusedVariables false
set_option maxHeartbeats 8000000
set_option maxRecDepth 100000
attribute [local go_sem ↓] Go.wp_at_zero Go.wp_at_succ
theorem walk_budgetNo (A : Option Addr) (n cap : Nat) (k budget share : Int) (w : World) (h : ¬ (n ≤ 40 ∧ askG k budget share)) :
    Calls Try.prog 4 #[.slice A n cap, .int .i64 k, .int .i64 budget, .int .i64 share] w fun e w' => e = .returned (.bool true) ∧ Mod (fun _ => False) w w' := by
  have H := Lib.hid h
  clear h
  go_enter Try.func4, Try.ntmps4
  by_cases c0 : (40 : Int) < (n : Int)
  · go_wp2_with fail
    refine (awakeW _).mono ?_
    rintro e w1 ⟨rfl, m1⟩
    go_wp2_with fail
    go_ret
    exact ⟨rfl, m1⟩
  by_cases c1 : k < 1
  · go_wp2_with fail
    refine (awakeW _).mono ?_
    rintro e w1 ⟨rfl, m1⟩
    go_wp2_with fail
    go_ret
    exact ⟨rfl, m1⟩
  by_cases c2 : 8 < k
  · go_wp2_with fail
    refine (awakeW _).mono ?_
    rintro e w1 ⟨rfl, m1⟩
    go_wp2_with fail
    go_ret
    exact ⟨rfl, m1⟩
  by_cases c3 : budget < 0
  · go_wp2_with fail
    refine (awakeW _).mono ?_
    rintro e w1 ⟨rfl, m1⟩
    go_wp2_with fail
    go_ret
    exact ⟨rfl, m1⟩
  by_cases c4 : 1099511627776 < budget
  · go_wp2_with fail
    refine (awakeW _).mono ?_
    rintro e w1 ⟨rfl, m1⟩
    go_wp2_with fail
    go_ret
    exact ⟨rfl, m1⟩
  by_cases c5 : share < 0
  · go_wp2_with fail
    refine (awakeW _).mono ?_
    rintro e w1 ⟨rfl, m1⟩
    go_wp2_with fail
    go_ret
    exact ⟨rfl, m1⟩
  by_cases c6 : budget < share
  · go_wp2_with fail
    refine (awakeW _).mono ?_
    rintro e w1 ⟨rfl, m1⟩
    go_wp2_with fail
    go_ret
    exact ⟨rfl, m1⟩
  exact absurd ⟨by omega, by omega, by omega, by omega, by omega, by omega, by omega⟩ H.out
theorem walk_srptBudget {v : Value} (w : World) (ms : List Ms) (w0 : Mss w v ms) (k : Int) (w1 : (Lit.int .i64 k).wf = true) (budget : Int) (w2 : (Lit.int .i64 budget).wf = true) (share : Int) (w3 : (Lit.int .i64 share).wf = true) :
    Calls Try.prog 4 #[v, .int .i64 k, .int .i64 budget, .int .i64 share] w fun e w' => e = .returned (.bool true) ∧ Below w.heap.size w w' := by
  have key : Calls Try.prog 4 #[v, .int .i64 k, .int .i64 budget, .int .i64 share] w fun e w' => e = .returned (.bool true) ∧ Mod (fun _ => False) w w' := by
    by_cases hl : ms.length ≤ 40 ∧ askG k budget share
    · exact walk_budget v ms k budget share w w0.1 hl.1 hl.2
    · obtain ⟨A, cap, rfl, _⟩ := w0.1.form
      exact walk_budgetNo A _ cap k budget share w hl
  exact key.mono fun e w' ⟨he, hm⟩ => ⟨he, hm.below⟩
theorem open_srptBudget_l {H : Type} {enc : TypeId × Value → H} {w : World} {v : Value} {d : DataW H} {p : List MemPlace}
    (hv : Value.okWide Try.prog w .any 0 22 v) (h : DataW.Trod enc Try.prog w 0 (fun _ => true) true 22 v d p) : ∃ ms : List Ms, Mss w v ms := open_msgs hv h
end Go.Proofs.Ytpcgfejdeanenaa
