/- The walk of TableEach, whatever comes. -/
import Derived.Test.YtkfembhladjhdaaTabF
namespace Go.Proofs.Ytkfembhladjhdaa
open Go.ChangeShapes Go.WideShapes Go.RowKit
set_option linter.unusedVariables false
set_option maxHeartbeats 8000000
set_option maxRecDepth 100000
attribute [local go_sem ↓] Go.wp_at_zero Go.wp_at_succ
theorem walk_eachBig (A B : Option Addr) (n c m d : Nat) (w : World) (h : 60 < n ∨ 60 < m) :
    Calls Try.prog 5 #[.slice A n c, .slice B m d] w fun e w' => e = .returned (.bool true) ∧ Mod (fun _ => False) w w' := by
  have hc : (60 : Int) < (n : Int) ∨ (¬ (60 : Int) < (n : Int) ∧ (60 : Int) < (m : Int)) := by omega
  clear h
  go_enter Try.func5, Try.ntmps5
  rcases hc with h1 | ⟨h1, h2⟩
  all_goals
    go_wp2_with fail
    refine (awakeW _).mono ?_
    rintro e w1 ⟨rfl, m1⟩
    go_wp2_with fail
    go_ret
    exact ⟨rfl, m1⟩
/-- Numbers that came in. -/
def InsU (w : World) (v : Value) (xs : List Int) : Prop := Has w w.heap.size 1 encU v xs ∧ (∀ z ∈ xs, (Lit.int .u64 z).wf = true) ∧ xs.length ≤ 9223372036854775807
def InsI (w : World) (v : Value) (xs : List Int) : Prop := Has w w.heap.size 1 encI v xs ∧ (∀ z ∈ xs, (Lit.int .i64 z).wf = true) ∧ xs.length ≤ 9223372036854775807
theorem open_tableEach_ids {H : Type} {enc : TypeId × Value → H} {w : World} {v : Value} {d : DataW H} {p : List MemPlace}
    (hv : Value.okWide Try.prog w .any 0 54 v) (h : DataW.Trod enc Try.prog w 0 (fun _ => true) true 54 v d p) : ∃ xs : List Int, InsU w v xs :=
  open_has Try.underlying54 Try.underlying22 (by kernel_rfl) hv h
theorem open_tableEach_peers {H : Type} {enc : TypeId × Value → H} {w : World} {v : Value} {d : DataW H} {p : List MemPlace}
    (hv : Value.okWide Try.prog w .any 0 55 v) (h : DataW.Trod enc Try.prog w 0 (fun _ => true) true 55 v d p) : ∃ xs : List Int, InsI w v xs :=
  open_has Try.underlying55 Try.underlying3 (by kernel_rfl) hv h
theorem walk_tableEach {v u : Value} (w : World) (ids : List Int) (w0 : InsU w v ids) (prs : List Int) (w1 : InsI w u prs) :
    Calls Try.prog 5 #[v, u] w fun e w' => e = .returned (.bool true) ∧ Below w.heap.size w w' := by
  have key : Calls Try.prog 5 #[v, u] w fun e w' => e = .returned (.bool true) ∧ Mod (fun _ => False) w w' := by
    by_cases hl : ids.length ≤ 60 ∧ prs.length ≤ 60
    · exact walk_each v u ids prs w w0.1 w1.1 hl.1 hl.2
    · obtain ⟨A, c, rfl, _⟩ := w0.1.form
      obtain ⟨B, d, rfl, _⟩ := w1.1.form
      exact walk_eachBig A B _ c _ d w (by omega)
  exact key.mono fun e w' ⟨he, hm⟩ => ⟨he, hm.below⟩
end Go.Proofs.Ytkfembhladjhdaa
