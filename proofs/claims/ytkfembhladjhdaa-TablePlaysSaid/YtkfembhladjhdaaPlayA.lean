/- Playing on a table, and on cells in order. -/
import Derived.Test.YtkfembhladjhdaaCellW
import Derived.Test.YtkfembhladjhdaaSumW
import Derived.Test.YtkfembhladjhdaaStepO
import Derived.Test.YtkfembhladjhdaaTabKStr
import Derived.Test.YtkfembhladjhdaaTabSStr
import Derived.Deep.CutBlock
import Derived.Deep.RegionHeld3
namespace Go.Proofs.Ytkfembhladjhdaa
open Go.RowKit Go.Sort
set_option linter.unusedVariables false
set_option maxHeartbeats 8000000
set_option maxRecDepth 100000
attribute [local go_sem ↓] Go.wp_at_zero Go.wp_at_succ
theorem isM_some {m : List Cl} {f : Int × Int → Option ByteArray} (hs : sortedM m) (ha : alike m f) {k : Int × Int} {v : ByteArray} (h : f k = some v) : isM m k = true := by
  unfold isM
  rw [alike_some hs ha h]
  simp
theorem isM_none {m : List Cl} {f : Int × Int → Option ByteArray} (ha : alike m f) {k : Int × Int} (h : f k = none) : isM m k = false := by
  unfold isM
  cases hc : m[atM m k]? with
  | none => rfl
  | some c => simp only [decide_eq_false_iff_not]; exact alike_none ha h hc
theorem isM_eq {m : List Cl} {f : Int × Int → Option ByteArray} (hs : sortedM m) (ha : alike m f) (k : Int × Int) : isM m k = (f k).isSome := by
  cases h : f k with
  | none => exact isM_none ha h
  | some v => exact isM_some hs ha h
/-- The table, and the cells that say what it holds. -/
structure Both (w0 w : World) (bt bs : Nat) (most : Int) (f : Int × Int → Option ByteArray) (mv : Value) (m : List Cl) : Prop where
  tab : TabStr.Tb w bt bs most (m.length : Int) f
  sorted : sortedM m
  same : alike m f
  own : Own w w0.heap.size 48 3 encC mv m
  apart : ∀ z, mv.ownBlock = some z → z ≠ bt ∧ z ≠ bs
  bs0 : w0.heap.size ≤ bs
  bt0 : w0.heap.size ≤ bt
  mod : Mod (fun _ => False) w0 w
theorem Both.later {w0 w w' : World} {bt bs : Nat} {most : Int} {f : Int × Int → Option ByteArray} {mv : Value} {m : List Cl} (h : Both w0 w bt bs most f mv m) (d : Mod (fun _ => False) w w') : Both w0 w' bt bs most f mv m :=
  ⟨h.tab.mod d (fun e => e) (fun e => e), h.sorted, h.same, h.own.later d, h.apart, h.bs0, h.bt0, h.mod.trans d (fun _ _ e => e)⟩
/-- The table alone was written. -/
theorem Both.put {w0 w w' : World} {bt bs bq : Nat} {most : Int} {f g : Int × Int → Option ByteArray} {mv : Value} {m : List Cl} (h : Both w0 w bt bs most f mv m) (d : Mod (fun k => k = bt ∨ k = bs) w w') :
    Own w' w0.heap.size 48 3 encC mv m ∧ Mod (fun _ => False) w0 w' :=
  ⟨h.own.mod d (fun z e1 e2 => by
    have := h.apart z e1
    omega), h.mod.trans d (fun z hz e => by
    have := h.bs0
    have := h.bt0
    omega)⟩
theorem cell_info : (Try.prog.info? 48).map (fun i => (i.zero, i.size, i.bytes)) = some (some (.agg #[.int .i64 0, .int .u64 0, .string ⟨#[]⟩]), 3, 32) := by kernel_rfl
theorem one_C (c : Cl) : ∀ y ∈ encC c, y.oneCell' = true := fun y hy => by
  simp [encC] at hy
  rcases hy with rfl | rfl | rfl <;> rfl
theorem Reads.take {w : World} {B size n : Nat} {A : Option Addr} {xs : List Value} (h : Reads w B size A n xs) {m : Nat} (hm : m ≤ n) : Reads w B size A m (xs.take (m * size)) := by
  refine ⟨?_, fun h0 => ?_⟩
  · rw [List.length_take, h.1]
    exact Nat.min_eq_left (Nat.mul_le_mul_right _ hm)
  · obtain ⟨ad, e, hb, hc⟩ := h.2 (by omega)
    refine ⟨ad, e, hb, fun j u hu => hc j u ?_⟩
    rw [List.getElem?_take] at hu
    split at hu
    · exact hu
    · cases hu
theorem Has.take {α : Type} {enc : α → List Value} {sz : Nat} {w : World} {B : Nat} {A : Option Addr} {n cap m : Nat} {xs : List α} (hE : ∀ x, (enc x).length = sz) (h : Has w B sz enc (.slice A n cap) xs) (hm : m ≤ n) : Has w B sz enc (.slice A m cap) (xs.take m) := by
  obtain ⟨A', cap', e, h1, h2, h3, h4⟩ := h
  injection e with e1 e2 e3
  subst e1 e2 e3
  have hl : (xs.take m).length = m := by rw [List.length_take]; omega
  refine ⟨A, cap, by rw [hl], by omega, h2, ?_, fun g e hn => h4 g e (by omega)⟩
  rw [hl]
  have := h3.take hm
  have ht : (xs.flatMap enc).take (m * sz) = (xs.take m).flatMap enc := by
    clear h1 h3 h4 hl this hm
    induction xs generalizing m with
    | nil => simp
    | cons x xs ih =>
      cases m with
      | zero => simp
      | succ m =>
        rw [List.flatMap_cons, List.take_succ_cons, List.flatMap_cons, Nat.succ_mul, List.take_append, hE, List.take_of_length_le (by rw [hE]; omega), show m * sz + sz - sz = m * sz by omega, ih]
  rw [← ht]
  exact this
theorem Has.reads {α : Type} {enc : α → List Value} {sz : Nat} {w : World} {B : Nat} {A : Option Addr} {n cap : Nat} {xs : List α} (h : Has w B sz enc (.slice A n cap) xs) : Reads w B sz A n (xs.flatMap enc) := by
  obtain ⟨A', cap', e, h1, h2, h3, h4⟩ := h
  injection e with e1 e2 e3
  subst e1 e2 e3
  exact h3
theorem one_Cs (l : List Cl) : ∀ y ∈ l.flatMap encC, y.oneCell' = true := fun y hy => by
  obtain ⟨c, _, hc⟩ := List.mem_flatMap.1 hy
  exact one_C c y hc
end Go.Proofs.Ytkfembhladjhdaa
