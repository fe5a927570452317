/- What the document fixes of tables; which key is less. -/
import Derived.Test.YtkfembhladjhdaaTabTInt
import Derived.Test.YtkfembhladjhdaaTabMInt
import Derived.Test.YtkfembhladjhdaaTabWStr
import Derived.Test.YtkfembhladjhdaaKeyP
import Derived.OpenShut
namespace Go.Proofs.Ytkfembhladjhdaa
open Go.RowKit Go.ChangeShapes Go.WideShapes
set_option linter.unusedVariables false
set_option maxHeartbeats 2000000
set_option maxRecDepth 100000
theorem awakeW (w : World) :
    Calls Try.prog 6 #[] w fun e w' => e = .returned (.bool true) ∧ Mod (fun _ => False) w w' := by
  go_enter Try.func6, Try.ntmps6
  go_wp2_with fail
  refine (TabInt.newT 1 _ (by omega) (by omega)).mono ?_
  rintro e w1 ⟨bt, bs, rfl, h1, l1, l2, m1⟩
  go_wp2_with fail
  refine (TabStr.newNo 0 _ (by omega)).mono ?_
  rintro e w2 ⟨rfl, rfl⟩
  go_wp2_with fail
  refine (TabInt.putNewT _ _ _ _ _ 1 2 7 _ h1 rfl (by omega)).mono ?_
  rintro e w2 ⟨rfl, bq, hq, h2, m2⟩
  have hl := h2.lt
  have m3 : Mod (fun _ => False) w w2 := m1.trans m2 (fun i hi h => by omega)
  clear m1 m2 h1 hq
  go_wp2_with fail
  refine (TabInt.putFullT _ _ _ _ _ 1 3 8 _ h2 rfl (by omega)).mono ?_
  rintro e w3 ⟨rfl, m4⟩
  have h3 := h2.mod m4 (fun e => e) (fun e => e)
  have m5 := m3.trans m4 (fun _ _ h => h)
  clear m4 m3 h2
  go_wp2_with fail
  refine (TabInt.getT _ _ _ _ _ 1 2 _ h3).mono ?_
  rintro e w4 ⟨rfl, m6⟩
  have h4 := h3.mod m6 (fun e => e) (fun e => e)
  have m7 := m5.trans m6 (fun _ _ h => h)
  clear m6 m5 h3
  simp only [↓reduceIte, TabInt.val, Option.isSome_some]
  go_wp2_with fail
  obtain ⟨s, h5, _⟩ := h4
  refine (TabInt.mostW _ _ _ _ _ _ h5).mono ?_
  rintro e w5 ⟨rfl, rfl⟩
  go_wp2
  go_ret
  exact ⟨rfl, m7⟩
theorem lessW (p i q j : Int) (w : World) :
    Calls Try.prog 28 #[.agg #[.int .i64 p, .int .u64 i], .agg #[.int .i64 q, .int .u64 j]] w fun e w' => e = .returned (.bool (decide (ltK (p, i) (q, j)))) ∧ Mod (fun _ => False) w w' := by
  generalize hr : decide (ltK (p, i) (q, j)) = r
  have hT : (p < q ∨ (p = q ∧ i < j)) → r = true := fun h => by rw [← hr]; exact decide_eq_true h
  have hF : ¬ (p < q ∨ (p = q ∧ i < j)) → r = false := fun h => by rw [← hr]; exact decide_eq_false h
  clear hr
  rcases (by omega : p < q ∨ q < p ∨ p = q) with h | h | h
  · obtain rfl : r = true := hT (by omega)
    have e1 : decide (p < q) = true := by simp; omega
    clear hT hF
    go_enter Try.func28, Try.ntmps28
    go_wp2_with fail
    go_ret
    exact ⟨rfl, ((Mod.refl _ w).alloc _).alloc _⟩
  · obtain rfl : r = false := hF (by omega)
    have e1 : decide (p < q) = false := by simp; omega
    have e2 : (p == q) = false := by simp; omega
    clear hT hF
    go_enter Try.func28, Try.ntmps28
    go_wp2_with fail
    go_ret
    exact ⟨rfl, ((Mod.refl _ w).alloc _).alloc _⟩
  · subst h
    have e1 : decide (p < p) = false := by simp
    have e2 : (p == p) = true := by simp
    by_cases hl : i < j
    · obtain rfl : r = true := hT (by omega)
      have e3 : decide (i < j) = true := by simp; omega
      clear hT hF
      go_enter Try.func28, Try.ntmps28
      go_wp2_with fail
      go_ret
      exact ⟨rfl, ((Mod.refl _ w).alloc _).alloc _⟩
    · obtain rfl : r = false := hF (by omega)
      have e3 : decide (i < j) = false := by simp; omega
      clear hT hF
      go_enter Try.func28, Try.ntmps28
      go_wp2_with fail
      go_ret
      exact ⟨rfl, ((Mod.refl _ w).alloc _).alloc _⟩
end Go.Proofs.Ytkfembhladjhdaa
