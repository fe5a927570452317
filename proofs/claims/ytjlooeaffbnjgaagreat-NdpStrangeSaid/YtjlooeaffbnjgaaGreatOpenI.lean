/- Arguments that are slices of whole numbers. -/
import Derived.Test.YtjlooeaffbnjgaaGreatRows
import Derived.Test.YtjlooeaffbnjgaaGreatRow2
import Derived.WalkKit
import Derived.ProofKit
import Derived.OpenShut
import Derived.ChangeSlices
import Derived.Deep.Slices
import Derived.Deep.Fields
namespace Go.Proofs.YtjlooeaffbnjgaaGreat
open Go.ChangeShapes Go.WideShapes Go.RowKit Go.Deep
set_option linter.unusedVariables false
/-- Whole numbers of a kind, a cell each. -/
def encN (k : IntKind) (z : Int) : List Value := [.int k z]
theorem encN_len (k : IntKind) (z : Int) : (encN k z).length = 1 := rfl
theorem flat_N (k : IntKind) (zs : List Int) : zs.flatMap (encN k) = zs.map (Value.int k) := by
  induction zs with
  | nil => rfl
  | cons z zs ih => rw [List.flatMap_cons, ih]; rfl
section
variable {H : Type} {enc : TypeId × Value → H} {P : Program} {w : World}
theorem open_has {t e : TypeId} {k : IntKind} {v : Value} {d : DataW H} {p : List MemPlace} (ht : P.underlying t = some (.slice e)) (he : P.underlying e = some (.int k)) (hC : P.cellsOf e = 1)
    (hv : Value.okWide P w .any 0 t v) (h : DataW.Trod enc P w 0 (fun _ => true) true t v d p) : ∃ xs : List Int, Has w w.heap.size 1 (encN k) v xs ∧ (∀ z ∈ xs, (Lit.int k z).wf = true) ∧ xs.length ≤ 9223372036854775807 := by
  obtain ⟨a0, len, cap, rfl⟩ := okWide_slice ht hv
  obtain ⟨fuel, hf⟩ := h
  rcases open_ints ht he hC hf with ⟨h0, _⟩ | ⟨a, len', cap', zs, hcs, hb, hl, hm, hzl, hx, hcell, hwf⟩
  · simp [Value.cells] at h0
    obtain ⟨rfl, rfl, rfl⟩ := h0
    exact ⟨[], Has.nil, (fun z h => by cases h), by simp⟩
  · simp [Value.cells] at hcs
    obtain ⟨rfl, rfl, rfl⟩ := hcs
    simp only [if_true] at hzl
    have htl : (zs.take len).length = len := by rw [List.length_take]; omega
    have hat : ∀ i, i < cap → w.cell? (a.add i) = some (.int k (zs.getD i 0)) := fun i hi => hcell i (by omega)
    refine ⟨zs.take len, ⟨some a, cap, by rw [htl], by omega, (fun e => by cases e), ?_, fun g e hn => ?_⟩, fun z hz => hwf z (List.mem_of_mem_take hz), by rw [htl]; unfold maxLen at hm; omega⟩
    · rw [flat_N]
      refine ⟨by simp, fun hn => ⟨a, rfl, ?_, fun j u hu => ?_⟩⟩
      · have := World.block_lt_of_cell? _ _ (hat 0 (by omega))
        rwa [block_of_add] at this
      · rw [List.getElem?_map, List.getElem?_take] at hu
        by_cases hj : j < len
        · rw [if_pos hj, List.getElem?_eq_getElem (show j < zs.length by omega)] at hu
          have := hat j (by omega)
          rw [this]
          simp [List.getD, List.getElem?_eq_getElem (show j < zs.length by omega)] at hu ⊢
          exact hu
        · rw [if_neg hj] at hu; cases hu
    · obtain rfl := Option.some.inj e
      have h0 := hat 0 (by omega)
      refine ⟨by simpa [Addr.add] using World.cell?_spot h0, ?_⟩
      have := World.block_lt_of_cell? _ _ h0
      rwa [block_of_add] at this
end
end Go.Proofs.YtjlooeaffbnjgaaGreat
