/- A row of the call's own under the library's sorting: of things of one cell, of whatever kind. -/
import Derived.Test.YtddnlbkocmpffaaZRow2
import Derived.Shelf.SlSortCmp.Kit1
import Derived.Shelf.SlSortCmp.WholeK
namespace Go.Proofs.Ytddnlbkocmpffaa
open Go.RowKit Go.Sort
set_option linter.unusedVariables false
section
variable {α : Type} [Inhabited α] {en : α → Value}
theorem sort_block {w : World} {g n : Nat} {os : Array Obj} {cur : Array Value} {e : TypeId} {fr : Nat × Nat} (d : Array α) (hb : w.heap[g]? = some (.cells cur e fr)) :
    (sortWorld en w g 0 n d os).heap[g]? = some (.cells (putCells en 0 d cur) e fr) := by
  have hg : g < w.heap.size := (Array.getElem?_eq_some_iff.1 hb).1
  unfold sortWorld
  rw [heap_grow_old _ _ (by simpa using hg)]
  simp [putRow, mapBlock, Sort.ahead, Array.getElem?_modify, hb, onCells]
theorem sort_mod {w : World} {g n : Nat} {os : Array Obj} (d : Array α) : Mod (fun k => k = g) w (sortWorld en w g 0 n d os) := by
  unfold sortWorld
  refine ⟨rfl, rfl, rfl, by simp, fun k hk hne => ?_⟩
  rw [heap_grow_old _ _ (by simpa using hk)]
  have : g ≠ k := fun e => hne e.symm
  simp [putRow, mapBlock, Sort.ahead, Array.getElem?_modify, this]
theorem sort_drawn {w : World} {g n : Nat} {os : Array Obj} (d : Array α) : w.drawn ≤ (sortWorld en w g 0 n d os).drawn := Nat.le_add_right _ _
theorem take_putC (cur : Array Value) (ts : Array α) (h : ts.size ≤ cur.size) : (putCells en 0 ts cur).toList.take ts.size = ts.toList.map en := by
  apply List.ext_getElem?
  intro j
  by_cases hj : j < ts.size
  · rw [List.getElem?_take_of_lt hj, Array.getElem?_toList]
    simp [putCells, hj, show j < cur.size by omega]
  · rw [List.getElem?_take_eq_none (by omega), List.getElem?_eq_none (by rw [List.length_map, Array.length_toList]; omega)]
/-- What the sort asks of the row. -/
theorem Own.holds {w : World} {B : Nat} {T : TypeId} {g n cap : Nat} {d : Array α} (h : Own w B T 1 (fun x => [en x]) (.slice (some ⟨g, 0, none⟩) n cap) d.toList) : Holds en w g 0 d := by
  intro j hj
  have hj' : j < d.toList.length := by simpa using hj
  have := Own.cell (sz := 1) (enc := fun x => [en x]) (fun _ => rfl) h (List.getElem?_eq_getElem hj') (j := 0) (by omega)
  rw [Nat.mul_one, Nat.add_zero] at this
  rw [Nat.zero_add, this]
  exact ⟨by simp [hj], h.free j⟩
theorem Own.sorted {w : World} {B : Nat} {T : TypeId} {g n cap m : Nat} {os : Array Obj} {d d' : Array α} (h : Own w B T 1 (fun x => [en x]) (.slice (some ⟨g, 0, none⟩) n cap) d.toList) (hs : d'.size = d.size) :
    Own (sortWorld en w g 0 m d' os) B T 1 (fun x => [en x]) (.slice (some ⟨g, 0, none⟩) n cap) d'.toList := by
  have hfl : ∀ l : List α, l.flatMap (fun x => [en x]) = l.map en := fun l => by induction l with
    | nil => rfl
    | cons x l ih => rw [List.flatMap_cons, ih]; rfl
  rcases h.2 with ⟨h0, _⟩ | ⟨g', cap', cur, hv, hb, hg, h1, h2, h3, h4⟩
  · cases h0
  · injection hv with e1 e2 e3
    obtain rfl : g = g' := by
      injection e1 with e
      injection e
    subst e3
    have hl : d'.toList.length = d.toList.length := by simpa using hs
    refine ⟨by rw [hfl]; simp, .inr ⟨g, cap, _, by rw [hl, e2], hb, sort_block d' hg, by rw [hl]; exact h1, h2, by simp [putCells, h3], ?_⟩⟩
    rw [Nat.mul_one, hfl, Array.length_toList]
    refine take_putC cur d' ?_
    have : d'.size = d.toList.length := by rw [← hl]; simp
    omega
end
end Go.Proofs.Ytddnlbkocmpffaa
namespace Go.Proofs.Ytddnlbkocmpffaa
open Go.RowKit Go.Sort
set_option linter.unusedVariables false
section
variable {α : Type} {enc : α → List Value} {k : Nat}
theorem flatC_get (hk : ∀ x, (enc x).length = k) : ∀ (l : List α) (i j : Nat) (x : α), l[i]? = some x → j < k → (l.flatMap enc)[i * k + j]? = (enc x)[j]?
  | [], i, j, x, hi, hj => by cases hi
  | y :: l, 0, j, x, hi, hj => by
    obtain rfl := Option.some.inj hi
    rw [List.flatMap_cons, Nat.zero_mul, Nat.zero_add, List.getElem?_append_left (by rw [hk]; exact hj)]
  | y :: l, i + 1, j, x, hi, hj => by
    rw [List.flatMap_cons, List.getElem?_append_right (by rw [hk, Nat.add_mul, Nat.one_mul]; omega), show (i + 1) * k + j - (enc y).length = i * k + j by rw [hk, Nat.add_mul, Nat.one_mul]; omega]
    exact flatC_get hk l i j x hi hj
theorem flatC_len (hk : ∀ x, (enc x).length = k) (l : List α) : (l.flatMap enc).length = l.length * k := by
  induction l with
  | nil => simp
  | cons x l ih => rw [List.flatMap_cons, List.length_append, ih, hk, List.length_cons, Nat.add_mul, Nat.one_mul, Nat.add_comm]
variable [Inhabited α]
theorem flatK_list (hk : ∀ x, (enc x).length = k) (d : Array α) : (flatK enc k d).toList = d.toList.flatMap enc := by
  apply List.ext_getElem?
  intro t
  by_cases ht : t < d.size * k
  · have k0 : 0 < k := by
      rcases Nat.eq_zero_or_pos k with h | h
      · subst h; simp at ht
      · exact h
    have hdt : t / k < d.size := (Nat.div_lt_iff_lt_mul k0).2 ht
    have hmt : t % k < k := Nat.mod_lt _ k0
    have e : t = t / k * k + t % k := by rw [Nat.mul_comm]; exact (Nat.div_add_mod t k).symm
    have h1 := get_flatK enc k d t ht
    have hs : t < (flatK enc k d).size := by rw [size_flatK]; exact ht
    rw [getElem!_pos _ t hs] at h1
    have hx : d.toList[t / k]? = some d[t / k]! := by
      rw [Array.getElem?_toList, Array.getElem?_eq_getElem hdt, getElem!_pos d _ hdt]
    have h2 := flatC_get hk d.toList (t / k) (t % k) _ hx hmt
    rw [← e] at h2
    rw [h2, Array.getElem?_toList, Array.getElem?_eq_getElem hs, h1, List.getElem?_eq_getElem (by rw [hk]; exact hmt), getElem!_pos _ _ (by rw [hk]; exact hmt)]
  · rw [List.getElem?_eq_none (by rw [Array.length_toList, size_flatK]; omega), List.getElem?_eq_none (by rw [flatC_len hk, Array.length_toList]; omega)]
theorem sortK_eq {w : World} {g m : Nat} {os : Array Obj} (d : Array α) : sortWorldK enc k w g 0 m d os = sortWorld id w g 0 m (flatK enc k d) os := rfl
theorem sortK_mod {w : World} {g n : Nat} {os : Array Obj} (d : Array α) : Mod (fun k => k = g) w (sortWorldK enc k w g 0 n d os) := by
  rw [sortK_eq]
  exact sort_mod (en := id) _
theorem Own.holdsK (hk : ∀ x, (enc x).length = k) {w : World} {B : Nat} {T : TypeId} {g n cap : Nat} {d : Array α} (h : Own w B T k enc (.slice (some ⟨g, 0, none⟩) n cap) d.toList) : HoldsK enc k w g 0 d := by
  intro t ht
  rw [size_flatK] at ht
  have k0 : 0 < k := by
    rcases Nat.eq_zero_or_pos k with h | h
    · subst h; simp at ht
    · exact h
  have hdt : t / k < d.size := (Nat.div_lt_iff_lt_mul k0).2 ht
  have hmt : t % k < k := Nat.mod_lt _ k0
  have e : t / k * k + t % k = t := by rw [Nat.mul_comm]; exact Nat.div_add_mod t k
  have hx : d.toList[t / k]? = some d[t / k]! := by
    rw [Array.getElem?_toList, Array.getElem?_eq_getElem hdt, getElem!_pos d _ hdt]
  have := h.cell hk hx hmt
  rw [e] at this
  rw [Nat.zero_add, this, get_flatK _ _ _ _ ht, List.getElem?_eq_getElem (by rw [hk]; exact hmt), getElem!_pos (enc d[t / k]!) (t % k) (by rw [hk]; exact hmt)]
  exact ⟨rfl, h.free t⟩
theorem Own.sortedK (hk : ∀ x, (enc x).length = k) {w : World} {B : Nat} {T : TypeId} {g n cap m : Nat} {os : Array Obj} {d d' : Array α} (h : Own w B T k enc (.slice (some ⟨g, 0, none⟩) n cap) d.toList) (hs : d'.size = d.size) :
    Own (sortWorldK enc k w g 0 m d' os) B T k enc (.slice (some ⟨g, 0, none⟩) n cap) d'.toList := by
  rw [sortK_eq]
  rcases h.2 with ⟨h0, _⟩ | ⟨g', cap', cur, hv, hb, hg, h1, h2, h3, h4⟩
  · cases h0
  · injection hv with e1 e2 e3
    obtain rfl : g = g' := by
      injection e1 with e
      injection e
    subst e3
    have hl : d'.toList.length = d.toList.length := by simpa using hs
    refine ⟨by rw [flatC_len hk], .inr ⟨g, cap, _, by rw [hl, e2], hb, sort_block (en := id) (flatK enc k d') hg, by rw [hl]; exact h1, h2, by simp [putCells, h3], ?_⟩⟩
    have hsz : (flatK enc k d').size = d'.toList.length * k := by rw [size_flatK, Array.length_toList]
    have hle : (flatK enc k d').size ≤ cur.size := by
      rw [hsz, hl, h3]
      exact Nat.mul_le_mul_right _ h1
    have := take_putC (en := id) cur (flatK enc k d') hle
    rw [hsz, List.map_id, flatK_list hk] at this
    exact this
end
end Go.Proofs.Ytddnlbkocmpffaa
