/- The walk of SrptShortest, whatever comes. -/
import Derived.Test.YtpcgfejdeanenaaSrU
import Derived.Test.YtpcgfejdeanenaaOpenI
namespace Go.Proofs.Ytpcgfejdeanenaa
open Go.ChangeShapes Go.WideShapes Go.RowKit
set_option linter.unusedVariables false
set_option maxHeartbeats 8000000
set_option maxRecDepth 100000
attribute [local go_sem ↓] Go.wp_at_zero Go.wp_at_succ
theorem walk_shortestNo (A : Option Addr) (n cap : Nat) (k budget : Int) (w : World) (h : ¬ (0 < n ∧ n ≤ 40 ∧ 1 ≤ k ∧ k ≤ 8 ∧ k ≤ budget ∧ budget ≤ 1073741824)) :
    Calls Try.prog 5 #[.slice A n cap, .int .i64 k, .int .i64 budget] w fun e w' => e = .returned (.bool true) ∧ Mod (fun _ => False) w w' := by
  have H := Lib.hid h
  clear h
  by_cases c0 : n = 0
  · subst c0
    go_enter Try.func5, Try.ntmps5
    go_wp2_with fail
    refine (awakeW _).mono ?_
    rintro e w1 ⟨rfl, m1⟩
    go_wp2_with fail
    go_ret
    exact ⟨rfl, m1⟩
  have cn : ((n : Int) == 0) = false := by simp; exact c0
  have cn1 : (1 : Int) ≤ (n : Int) := by omega
  go_enter Try.func5, Try.ntmps5
  by_cases c1 : (40 : Int) < (n : Int)
  · go_wp2_with fail
    refine (awakeW _).mono ?_
    rintro e w1 ⟨rfl, m1⟩
    go_wp2_with fail
    go_ret
    exact ⟨rfl, m1⟩
  by_cases c2 : k < 1
  · go_wp2_with fail
    refine (awakeW _).mono ?_
    rintro e w1 ⟨rfl, m1⟩
    go_wp2_with fail
    go_ret
    exact ⟨rfl, m1⟩
  by_cases c3 : 8 < k
  · go_wp2_with fail
    refine (awakeW _).mono ?_
    rintro e w1 ⟨rfl, m1⟩
    go_wp2_with fail
    go_ret
    exact ⟨rfl, m1⟩
  by_cases c4 : budget < k
  · go_wp2_with fail
    refine (awakeW _).mono ?_
    rintro e w1 ⟨rfl, m1⟩
    go_wp2_with fail
    go_ret
    exact ⟨rfl, m1⟩
  by_cases c5 : 1073741824 < budget
  · go_wp2_with fail
    refine (awakeW _).mono ?_
    rintro e w1 ⟨rfl, m1⟩
    go_wp2_with fail
    go_ret
    exact ⟨rfl, m1⟩
  exact absurd ⟨by omega, by omega, by omega, by omega, by omega, by omega⟩ H.out
/-- Lengths that came in. -/
def Ints (w : World) (v : Value) (xs : List Int) : Prop := Has w w.heap.size 1 encI v xs ∧ (∀ z ∈ xs, (Lit.int .i64 z).wf = true) ∧ xs.length ≤ 9223372036854775807
theorem open_srptShortest_l {H : Type} {enc : TypeId × Value → H} {w : World} {v : Value} {d : DataW H} {p : List MemPlace}
    (hv : Value.okWide Try.prog w .any 0 43 v) (h : DataW.Trod enc Try.prog w 0 (fun _ => true) true 43 v d p) : ∃ xs : List Int, Ints w v xs :=
  open_has Try.underlying43 Try.underlying3 (by kernel_rfl) hv h
theorem walk_srptShortest {v : Value} (w : World) (l : List Int) (w0 : Ints w v l) (k : Int) (w1 : (Lit.int .i64 k).wf = true) (budget : Int) (w2 : (Lit.int .i64 budget).wf = true) :
    Calls Try.prog 5 #[v, .int .i64 k, .int .i64 budget] w fun e w' => e = .returned (.bool true) ∧ Below w.heap.size w w' := by
  have key : Calls Try.prog 5 #[v, .int .i64 k, .int .i64 budget] w fun e w' => e = .returned (.bool true) ∧ Mod (fun _ => False) w w' := by
    by_cases hl : 0 < l.length ∧ l.length ≤ 40 ∧ 1 ≤ k ∧ k ≤ 8 ∧ k ≤ budget ∧ budget ≤ 1073741824
    · exact walk_shortest v l k budget w w0.1 hl.1 hl.2.1 hl.2.2.1 hl.2.2.2.1 hl.2.2.2.2.1 hl.2.2.2.2.2
    · obtain ⟨A, cap, rfl, _⟩ := w0.1.form
      exact walk_shortestNo A _ cap k budget w hl
  exact key.mono fun e w' ⟨he, hm⟩ => ⟨he, hm.below⟩
end Go.Proofs.Ytpcgfejdeanenaa
