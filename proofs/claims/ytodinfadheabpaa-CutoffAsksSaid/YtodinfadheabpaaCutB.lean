/- The walk of CutoffAsks, whatever comes. -/
import Derived.Test.YtodinfadheabpaaCutA
namespace Go.Proofs.Ytodinfadheabpaa
open Go.ChangeShapes Go.WideShapes Go.RowKit Go.Shelf
set_option linter.unusedVariables false
set_option maxHeartbeats 8000000
set_option maxRecDepth 100000
theorem walk_asksBig (lev most : Int) (A : Option Addr) (n cap : Nat) (win size : Int) (w : World) (hl : 100 < n) :
    Calls Try.prog 3 #[.int .i64 lev, .int .i64 most, .slice A n cap, .int .i64 win, .int .i64 size] w fun e w' => e = .returned (.bool true) ∧ Mod (fun _ => False) w w' := by
  have hl' : (100 : Int) < (n : Int) := by omega
  go_enter Try.func3, Try.ntmps3
  go_wp2_with fail
  refine (awakeW _).mono ?_
  rintro e w1 ⟨rfl, m1⟩
  go_wp2_with fail
  go_ret
  exact ⟨rfl, m1⟩
theorem walk_asksNo (lev most : Int) (A : Option Addr) (n cap : Nat) (win size : Int) (w : World) (hl : n ≤ 100) (hn : lev < 1 ∨ 8 < lev ∨ most < 1 ∨ 1000 < most) :
    Calls Try.prog 3 #[.int .i64 lev, .int .i64 most, .slice A n cap, .int .i64 win, .int .i64 size] w fun e w' => e = .returned (.bool true) ∧ Mod (fun _ => False) w w' := by
  have hl' : (n : Int) ≤ 100 := by omega
  have hC := cnewNo lev most w hn
  have HC := Lib.hid hC
  have hc : lev < 1 ∨ (1 ≤ lev ∧ 8 < lev) ∨ (1 ≤ lev ∧ lev ≤ 8 ∧ most < 1) ∨ (1 ≤ lev ∧ lev ≤ 8 ∧ 1 ≤ most ∧ 1000 < most ∧ decide (most ≤ 1000) = false) := by
    simp only [decide_eq_false_iff_not]
    omega
  clear hn hC
  rcases hc with h1 | ⟨h1, h2⟩ | ⟨h1, h2, h3⟩ | ⟨h1, h2, h3, h4, h5⟩
  all_goals
    go_enter Try.func3, Try.ntmps3
    go_wp2_with fail
    refine HC.out.mono ?_
    rintro e w1 ⟨rfl, rfl⟩
    go_wp2_with fail
    refine (awakeW _).mono ?_
    rintro e w1 ⟨rfl, m1⟩
    go_wp2_with fail
    go_ret
    exact ⟨rfl, m1⟩
theorem walk_cutoffAsks {v : Value} (w : World) (lev : Int) (w0 : (Lit.int .i64 lev).wf = true) (most : Int) (w1 : (Lit.int .i64 most).wf = true) (xs : List Int) (w2 : Ints w v xs) (win : Int) (w3 : (Lit.int .i64 win).wf = true) (size : Int) (w4 : (Lit.int .i64 size).wf = true) :
    Calls Try.prog 3 #[.int .i64 lev, .int .i64 most, v, .int .i64 win, .int .i64 size] w fun e w' => e = .returned (.bool true) ∧ Below w.heap.size w w' := by
  have key : Calls Try.prog 3 #[.int .i64 lev, .int .i64 most, v, .int .i64 win, .int .i64 size] w fun e w' => e = .returned (.bool true) ∧ Mod (fun _ => False) w w' := by
    by_cases hl : xs.length ≤ 100
    · by_cases hok : 1 ≤ lev ∧ lev ≤ 8 ∧ 1 ≤ most ∧ most ≤ 1000
      · exact walk_asks lev most v xs win size w w2 hok.1 hok.2.1 hok.2.2.1 hok.2.2.2 hl
      · obtain ⟨A, cap, rfl, _⟩ := w2.1.form
        exact walk_asksNo lev most A _ cap win size w hl (by omega)
    · obtain ⟨A, cap, rfl, _⟩ := w2.1.form
      exact walk_asksBig lev most A _ cap win size w (by omega)
  exact key.mono fun e w' ⟨he, hm⟩ => ⟨he, hm.below⟩
theorem open_cutoffAsks_sizes {H : Type} {enc : TypeId × Value → H} {w : World} {v : Value} {d : DataW H} {p : List MemPlace}
    (hv : Value.okWide Try.prog w .any 0 22 v) (h : DataW.Trod enc Try.prog w 0 (fun _ => true) true 22 v d p) : ∃ xs : List Int, Ints w v xs := open_sizes hv h
end Go.Proofs.Ytodinfadheabpaa
