/- What mizzenlaw20.PeerOnce is handed: texts, an order. -/
import Derived.Test.YtddnlbkocmpffaaZPeeI
import Derived.Test.YtddnlbkocmpffaaZOpenI
namespace Go.Proofs.Ytddnlbkocmpffaa
open Go.RowKit Go.ChangeShapes Go.WideShapes Go.Deep
set_option linter.unusedVariables false
set_option maxRecDepth 100000
section
variable {H : Type} {enc : TypeId × Value → H} {P : Program} {w : World}
theorem open_hasL {t e : TypeId} {k : IntKind} {cs : List Value} {x : DataW H × List MemPlace} {fuel : Nat} (ht : P.underlying t = some (.slice e)) (he : P.underlying e = some (.int k)) (hC : P.cellsOf e = 1)
    (hf : DataW.trod enc P w 0 (fun _ => true) true fuel t cs = some x) : ∃ (v : Value) (xs : List Int), cs = [v] ∧ Has w w.heap.size 1 (encN k) v xs ∧ (∀ z ∈ xs, (Lit.int k z).wf = true) ∧ xs.length ≤ 9223372036854775807 := by
  rcases open_ints ht he hC hf with ⟨h0, _⟩ | ⟨a, len', cap', zs, hcs, hb, hl, hm, hzl, hx, hcell, hwf⟩
  · exact ⟨_, [], h0, Has.nil, (fun z h => by cases h), by simp⟩
  · simp only [if_true] at hzl
    have htl : (zs.take len').length = len' := by rw [List.length_take]; omega
    have hat : ∀ i, i < cap' → w.cell? (a.add i) = some (.int k (zs.getD i 0)) := fun i hi => hcell i (by omega)
    refine ⟨_, zs.take len', hcs, ⟨some a, cap', by rw [htl], by omega, (fun e => by cases e), ?_, fun g e hn => ?_⟩, fun z hz => hwf z (List.mem_of_mem_take hz), by rw [htl]; unfold maxLen at hm; omega⟩
    · rw [flat_N]
      refine ⟨by simp, fun hn => ⟨a, rfl, ?_, fun j u hu => ?_⟩⟩
      · have := World.block_lt_of_cell? _ _ (hat 0 (by omega))
        rwa [block_of_add] at this
      · rw [List.getElem?_map, List.getElem?_take] at hu
        by_cases hj : j < len'
        · rw [if_pos hj, List.getElem?_eq_getElem (show j < zs.length by omega)] at hu
          have := hat j (by omega)
          rw [this]
          simp [List.getD, List.getElem?_eq_getElem (show j < zs.length by omega)] at hu ⊢
          exact hu
        · rw [if_neg hj] at hu; cases hu
    · obtain rfl := Option.some.inj e
      have h0 := hat 0 (by omega)
      refine ⟨by simpa [Addr.add] using World.cell?_spot h0, ?_⟩
      have := World.block_lt_of_cell? _ _ h0
      rwa [block_of_add] at this
end
theorem flat_1 (l : List Value) : l.flatMap (fun v => [v]) = l := by
  induction l with
  | nil => rfl
  | cons x l ih => rw [List.flatMap_cons, ih]; rfl
theorem byt_of_wf {xs : List Int} (h : ∀ z ∈ xs, (Lit.int .u8 z).wf = true) : Byt xs := fun z hz => by
  have h := h z hz
  simp [Lit.wf, IntKind.min, IntKind.max, IntKind.signed, IntKind.bits] at h
  omega
theorem open_peerOnce_order {H : Type} {enc : TypeId × Value → H} {w : World} {v : Value} {d : DataW H} {p : List MemPlace}
    (hv : Value.okWide Try.prog w .any 0 72 v) (h : DataW.Trod enc Try.prog w 0 (fun _ => true) true 72 v d p) :
    ∃ os : List Int, Has w w.heap.size 1 (encN .i64) v os ∧ (∀ z ∈ os, (Lit.int .i64 z).wf = true) ∧ os.length ≤ 9223372036854775807 :=
  open_has Try.underlying72 Try.underlying3 (by kernel_rfl) hv h
theorem open_peerOnce_texts {H : Type} {enc : TypeId × Value → H} {w : World} {v : Value} {d : DataW H} {p : List MemPlace}
    (hv : Value.okWide Try.prog w .any 0 71 v) (h : DataW.Trod enc Try.prog w 0 (fun _ => true) true 71 v d p) :
    ∃ T : List (List Int), HasT w w.heap.size v T ∧ (∀ t ∈ T, Byt t) ∧ (∀ t ∈ T, t.length ≤ 9223372036854775807) ∧ T.length ≤ 9223372036854775807 := by
  obtain ⟨a0, len, cap, rfl⟩ := okWide_slice Try.underlying71 hv
  obtain ⟨fuel, hf⟩ := h
  have hC : Try.prog.cellsOf 30 = 1 := by kernel_rfl
  rcases open_slice Try.underlying71 hf with ⟨h0, _⟩ | ⟨a, len', cap', m, n, D, Pl, hcs, hb, hl, hm, hmm, hx, hi⟩
  · simp [Value.cells] at h0
    obtain ⟨rfl, rfl, rfl⟩ := h0
    exact ⟨[], ⟨[], Has.nil, rfl, fun k v t h => by cases h⟩, (fun t h => by cases h), (fun t h => by cases h), by simp⟩
  · simp [Value.cells] at hcs
    obtain ⟨rfl, rfl, rfl⟩ := hcs
    simp only [if_true] at hmm
    subst hmm
    have hmax : len ≤ 9223372036854775807 := by unfold maxLen at hm; omega
    have key : ∀ i, ∃ y : Value × List Int, i < len → w.cell? (a.add i) = some y.1 ∧ Has w w.heap.size 1 encB y.1 y.2 ∧ Byt y.2 ∧ y.2.length ≤ 9223372036854775807 := by
      intro i
      by_cases him : i < len
      · obtain ⟨cs', hc, ht'⟩ := hi i (by omega)
        rw [hC] at hc
        obtain ⟨v, xs, e, hh, hwf, hln⟩ := open_hasL Try.underlying30 Try.underlying5 (by kernel_rfl) ht'
        obtain ⟨_, hcl, hat⟩ := World.cells?_some hc
        have h1 := hat 0 (by omega)
        rw [Go.Deep.add_add] at h1
        refine ⟨(v, xs), fun _ => ⟨?_, hh, byt_of_wf hwf, hln⟩⟩
        have e0 : i * 1 + 0 = i := by omega
        rw [e0] at h1
        rw [h1, e]
        rfl
      · exact ⟨(.bool false, []), fun h => absurd h him⟩
    obtain ⟨f, hf⟩ := Classical.skolem.1 key
    have hrl : ((List.range len).map fun i => (f i).1).length = len := by simp
    have hat : ∀ j, j < len → ((List.range len).map fun i => (f i).1)[j]? = some (f j).1 := fun j hj => by simp [hj]
    have hatT : ∀ j, j < len → ((List.range len).map fun i => (f i).2)[j]? = some (f j).2 := fun j hj => by simp [hj]
    refine ⟨(List.range len).map fun i => (f i).2, ⟨(List.range len).map fun i => (f i).1, ⟨some a, _, by rw [hrl], by rw [hrl]; omega, (fun e => by cases e), ?_, fun g e hn => ?_⟩, by simp, fun k v t hk ht => ?_⟩, fun t ht => ?_, fun t ht => ?_, by simpa using hmax⟩
    · rw [flat_1, hrl]
      refine ⟨by simp, fun hn => ⟨a, rfl, ?_, fun j u hu => ?_⟩⟩
      · have := World.block_lt_of_cell? _ _ (hf 0 hn).1
        rwa [block_of_add] at this
      · have hj : j < len := by have := (List.getElem?_eq_some_iff.1 hu).1; simpa using this
        rw [hat j hj] at hu
        rw [← Option.some.inj hu]
        exact (hf j hj).1
    · obtain rfl := Option.some.inj e
      rw [hrl] at hn
      have h0 := (hf 0 hn).1
      refine ⟨by simpa [Addr.add] using World.cell?_spot h0, ?_⟩
      have := World.block_lt_of_cell? _ _ h0
      rwa [block_of_add] at this
    · have hj : k < len := by have := (List.getElem?_eq_some_iff.1 hk).1; simpa using this
      rw [hat k hj] at hk
      rw [hatT k hj] at ht
      rw [← Option.some.inj hk, ← Option.some.inj ht]
      exact (hf k hj).2.1
    · obtain ⟨i, hi', rfl⟩ := List.mem_map.1 ht
      exact (hf i (List.mem_range.1 hi')).2.2.1
    · obtain ⟨i, hi', rfl⟩ := List.mem_map.1 ht
      exact (hf i (List.mem_range.1 hi')).2.2.2
end Go.Proofs.Ytddnlbkocmpffaa
