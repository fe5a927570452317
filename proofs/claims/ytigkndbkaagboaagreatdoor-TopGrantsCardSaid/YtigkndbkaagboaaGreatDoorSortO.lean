/- A row of the call's own under the library's sorting: of things of one cell, of whatever kind. -/
import Derived.Test.YtigkndbkaagboaaGreatDoorRow2
import Derived.Shelf.SlSortCmp.Kit1
namespace Go.Proofs.YtigkndbkaagboaaGreatDoor
open Go.RowKit Go.Sort
set_option linter.unusedVariables false
section
variable {α : Type} [Inhabited α] {en : α → Value}
theorem sort_block {w : World} {g n : Nat} {os : Array Obj} {cur : Array Value} {e : TypeId} {fr : Nat × Nat} (d : Array α) (hb : w.heap[g]? = some (.cells cur e fr)) :
    (sortWorld en w g 0 n d os).heap[g]? = some (.cells (putCells en 0 d cur) e fr) := by
  have hg : g < w.heap.size := (Array.getElem?_eq_some_iff.1 hb).1
  unfold sortWorld
  rw [heap_grow_old _ _ (by simpa using hg)]
  simp [putRow, mapBlock, Sort.ahead, Array.getElem?_modify, hb, onCells]
theorem sort_mod {w : World} {g n : Nat} {os : Array Obj} (d : Array α) : Mod (fun k => k = g) w (sortWorld en w g 0 n d os) := by
  unfold sortWorld
  refine ⟨rfl, rfl, rfl, by simp, fun k hk hne => ?_⟩
  rw [heap_grow_old _ _ (by simpa using hk)]
  have : g ≠ k := fun e => hne e.symm
  simp [putRow, mapBlock, Sort.ahead, Array.getElem?_modify, this]
theorem sort_drawn {w : World} {g n : Nat} {os : Array Obj} (d : Array α) : w.drawn ≤ (sortWorld en w g 0 n d os).drawn := Nat.le_add_right _ _
theorem take_putC (cur : Array Value) (ts : Array α) (h : ts.size ≤ cur.size) : (putCells en 0 ts cur).toList.take ts.size = ts.toList.map en := by
  apply List.ext_getElem?
  intro j
  by_cases hj : j < ts.size
  · rw [List.getElem?_take_of_lt hj, Array.getElem?_toList]
    simp [putCells, hj, show j < cur.size by omega]
  · rw [List.getElem?_take_eq_none (by omega), List.getElem?_eq_none (by rw [List.length_map, Array.length_toList]; omega)]
/-- What the sort asks of the row. -/
theorem Own.holds {w : World} {B : Nat} {T : TypeId} {g n cap : Nat} {d : Array α} (h : Own w B T 1 (fun x => [en x]) (.slice (some ⟨g, 0, none⟩) n cap) d.toList) : Holds en w g 0 d := by
  intro j hj
  have hj' : j < d.toList.length := by simpa using hj
  have := Own.cell (sz := 1) (enc := fun x => [en x]) (fun _ => rfl) h (List.getElem?_eq_getElem hj') (j := 0) (by omega)
  rw [Nat.mul_one, Nat.add_zero] at this
  rw [Nat.zero_add, this]
  exact ⟨by simp [hj], h.free j⟩
theorem Own.sorted {w : World} {B : Nat} {T : TypeId} {g n cap m : Nat} {os : Array Obj} {d d' : Array α} (h : Own w B T 1 (fun x => [en x]) (.slice (some ⟨g, 0, none⟩) n cap) d.toList) (hs : d'.size = d.size) :
    Own (sortWorld en w g 0 m d' os) B T 1 (fun x => [en x]) (.slice (some ⟨g, 0, none⟩) n cap) d'.toList := by
  have hfl : ∀ l : List α, l.flatMap (fun x => [en x]) = l.map en := fun l => by induction l with
    | nil => rfl
    | cons x l ih => rw [List.flatMap_cons, ih]; rfl
  rcases h.2 with ⟨h0, _⟩ | ⟨g', cap', cur, hv, hb, hg, h1, h2, h3, h4⟩
  · cases h0
  · injection hv with e1 e2 e3
    obtain rfl : g = g' := by
      injection e1 with e
      injection e
    subst e3
    have hl : d'.toList.length = d.toList.length := by simpa using hs
    refine ⟨by rw [hfl]; simp, .inr ⟨g, cap, _, by rw [hl, e2], hb, sort_block d' hg, by rw [hl]; exact h1, h2, by simp [putCells, h3], ?_⟩⟩
    rw [Nat.mul_one, hfl, Array.length_toList]
    refine take_putC cur d' ?_
    have : d'.size = d.toList.length := by rw [← hl]; simp
    omega
end
end Go.Proofs.YtigkndbkaagboaaGreatDoor
