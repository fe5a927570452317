/- Footprints: which blocks belong to which thing. -/
import Derived.Test.YtjlooeaffbnjgaaGreatRow2
namespace Go.Proofs.YtjlooeaffbnjgaaGreat
set_option linter.unusedVariables false
/-- The blocks of S, and those that are new between w and w'. -/
def Ext (S : Nat → Prop) (w w' : World) : Nat → Prop := fun k => S k ∨ (w.heap.size ≤ k ∧ k < w'.heap.size)
/-- Nothing. -/
abbrev NoB : Nat → Prop := fun _ => False
/-- The block of a slice lies in S. -/
def FootV (S : Nat → Prop) (v : Value) : Prop := ∀ k, v.ownBlock = some k → S k
/-- A thing in memory, within its blocks. -/
structure Comp (A : World → (Nat → Prop) → Prop) : Prop where
  up : ∀ w s t, A w s → (∀ k, s k → t k) → A w t
  keep : ∀ w w' S s, A w s → Mod S w w' → (∀ k, s k → ¬ S k) → A w' s
section
variable {ι : Type} {A A' : ι → World → (Nat → Prop) → Prop} {w w' : World} {ow : Nat → Option ι} {i : ι}
/-- Things in memory, each within its own blocks. -/
structure Fam (A : ι → World → (Nat → Prop) → Prop) (w : World) (ow : Nat → Option ι) : Prop where
  each : ∀ i, A i w (fun k => ow k = some i)
  old : ∀ k i, ow k = some i → k < w.heap.size
/-- Who owns what when the new blocks are i's. -/
def owAdd (ow : Nat → Option ι) (i : ι) (w w' : World) : Nat → Option ι := fun k => if w.heap.size ≤ k ∧ k < w'.heap.size then some i else ow k
theorem owAdd_new {k : Nat} (h : w.heap.size ≤ k) (h' : k < w'.heap.size) : owAdd ow i w w' k = some i := if_pos ⟨h, h'⟩
theorem owAdd_old {k : Nat} (h : k < w.heap.size) : owAdd ow i w w' k = ow k := if_neg (by omega)
theorem Fam.size_le {S : Nat → Prop} (m : Mod S w w') : w.heap.size ≤ w'.heap.size := m.size
/-- A step that changes nothing but what is i's; its new blocks are i's. -/
theorem Fam.step (h : Fam A w ow) (hA : ∀ j, Comp (A j)) (i : ι) {S : Nat → Prop} (m : Mod S w w') (hS : ∀ k, k < w.heap.size → S k → ow k = some i)
    (hi : A' i w' (Ext (fun k => ow k = some i) w w')) (hiu : Comp (A' i)) (hj : ∀ j, j ≠ i → A' j = A j) : Fam A' w' (owAdd ow i w w') := by
  refine ⟨fun j => ?_, fun k j hk => ?_⟩
  · by_cases hji : j = i
    · subst hji
      refine hiu.up _ _ _ hi fun k hk => ?_
      rcases hk with hk | ⟨h1, h2⟩
      · rw [owAdd_old (h.old k _ hk)]; exact hk
      · exact owAdd_new h1 h2
    · rw [hj j hji]
      refine (hA j).up _ _ _ ((hA j).keep _ _ S _ (h.each j) m fun k hk hs => ?_) fun k hk => ?_
      · have := hS k (h.old k _ hk) hs
        rw [hk] at this
        exact hji (Option.some.inj this)
      · rw [owAdd_old (h.old k _ hk)]; exact hk
  · unfold owAdd at hk
    split at hk
    · omega
    · exact Nat.lt_of_lt_of_le (h.old k j hk) m.size
/-- A step that changes nothing that was; its new blocks are nobody's. -/
theorem Fam.later (h : Fam A w ow) (hA : ∀ j, Comp (A j)) (m : Mod NoB w w') : Fam A w' ow :=
  ⟨fun j => (hA j).keep _ _ NoB _ (h.each j) m fun _ _ e => e, fun k j hk => Nat.lt_of_lt_of_le (h.old k j hk) m.size⟩
/-- One thing seen otherwise, within its blocks. -/
theorem Fam.turn (h : Fam A w ow) (hA : ∀ j, A j w (fun k => ow k = some j) → A' j w (fun k => ow k = some j)) : Fam A' w ow := ⟨fun j => hA j (h.each j), h.old⟩
end
end Go.Proofs.YtjlooeaffbnjgaaGreat
