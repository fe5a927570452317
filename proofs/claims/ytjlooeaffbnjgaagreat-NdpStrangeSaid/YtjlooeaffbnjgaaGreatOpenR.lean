/- Arguments that are slices of structs, each field in one cell. -/
import Derived.Test.YtjlooeaffbnjgaaGreatRows
import Derived.Test.YtjlooeaffbnjgaaGreatRow2
import Derived.WalkKit
import Derived.ProofKit
import Derived.OpenShut
import Derived.ChangeSlices
import Derived.Deep.Slices
import Derived.Deep.Fields
namespace Go.Proofs.YtjlooeaffbnjgaaGreat
open Go.ChangeShapes Go.WideShapes Go.RowKit Go.Deep
set_option linter.unusedVariables false
section
variable {H : Type} {enc : TypeId × Value → H} {P : Program} {w : World}
theorem open_cells (Q : Nat → Value → Prop) {t e : TypeId} {fs : Array Field} {v : Value} {d : DataW H} {p : List MemPlace} (ht : P.underlying t = some (.slice e)) (he : P.underlying e = some (.struct fs))
    (hone : oneCellFields P fs = true) (hC : P.cellsOf e = fs.size) (hsz : 0 < fs.size)
    (hint : ∀ (j : Nat) (f : Field), fs[j]? = some f → ∀ (base : Nat) (spare : Nat → Bool) (held : Bool) (fuel : Nat) (cs : List Value) (x : DataW H × List MemPlace), DataW.trod enc P w base spare held fuel f.type cs = some x → ∃ u, cs = [u] ∧ Q j u)
    (hv : Value.okWide P w .any 0 t v) (h : DataW.Trod enc P w 0 (fun _ => true) true t v d p) :
    ∃ (A : Option Addr) (n cap : Nat) (F : Nat → Nat → Value), v = .slice A n cap ∧ n ≤ cap ∧ n ≤ 9223372036854775807 ∧ (A = none → cap = 0) ∧ (0 < n → ∃ b off, A = some ⟨b, off, none⟩ ∧ b < w.heap.size ∧
      ∀ i j, i < n → j < fs.size → w.cell? ⟨b, off + (i * fs.size + j), none⟩ = some (F i j) ∧ Q j (F i j)) := by
  obtain ⟨a0, len, cap, rfl⟩ := okWide_slice ht hv
  obtain ⟨fuel, hf⟩ := h
  rcases open_slice ht hf with ⟨h0, _⟩ | ⟨a, len', cap', m, n, D, Pl, hcs, hb, hl, hm, hmm, hx, hi⟩
  · simp [Value.cells] at h0
    obtain ⟨rfl, rfl, rfl⟩ := h0
    exact ⟨none, 0, 0, fun _ _ => .bool false, rfl, Nat.le_refl _, by omega, fun _ => rfl, fun h => absurd h (by omega)⟩
  · simp [Value.cells] at hcs
    obtain ⟨rfl, rfl, rfl⟩ := hcs
    simp only [if_true] at hmm
    subst hmm
    have hmax : len ≤ 9223372036854775807 := by unfold maxLen at hm; omega
    have key : ∀ i, i < len → ∀ j, j < fs.size → ∃ z : Value, w.cell? (a.add (i * fs.size + j)) = some z ∧ Q j z := by
      intro i him j hj
      obtain ⟨cs', hc, ht'⟩ := hi i (by omega)
      rw [hC] at hc
      obtain ⟨ys, n', hn', hy, hlen, hyl, hf2⟩ := DataW.trod_struct he ht'
      obtain ⟨_, hcl, hat⟩ := World.cells?_some hc
      have hfj : fs[j]? = some (fs[j]) := Array.getElem?_eq_getElem hj
      obtain ⟨ho, hk⟩ := hone_of hone j _ hfj
      have hcell := hat j hj
      have h1 := hf2 j _ hfj
      rw [ho, hk] at h1
      have hone' : (cs'.drop j).take 1 = [cs'[j]'(by omega)] := by
        rw [List.drop_eq_getElem_cons (by omega)]
        rfl
      rw [hone'] at h1
      have hys : ys[j]? = some (ys[j]'(by omega)) := List.getElem?_eq_getElem (by omega)
      obtain ⟨z, hz, hq⟩ := hint j _ hfj _ _ _ _ _ _ (h1.trans hys)
      refine ⟨z, ?_, hq⟩
      rw [← Go.Deep.add_add, hcell, List.getElem?_eq_getElem (by omega)]
      congr 1
      simpa using hz
    rcases Nat.eq_zero_or_pos len with h0 | h0
    · exact ⟨some a, len, _, fun _ _ => .bool false, rfl, by omega, hmax, fun e => (by cases e), fun h => absurd h (by omega)⟩
    · have : ∃ b off, a = ⟨b, off, none⟩ := by
        obtain ⟨z, hz, _⟩ := key 0 h0 0 hsz
        obtain ⟨b, off, spot⟩ := a
        have hspot : spot = none := by simpa [Addr.add] using World.cell?_spot hz
        exact ⟨b, off, by rw [hspot]⟩
      obtain ⟨b, off, rfl⟩ := this
      let F : Nat → Nat → Value := fun i j => (w.cell? ⟨b, off + (i * fs.size + j), none⟩).getD (.bool false)
      refine ⟨some ⟨b, off, none⟩, len, _, F, rfl, by omega, hmax, fun e => (by cases e), fun _ => ⟨b, off, rfl, ?_, fun i j hi hj => ?_⟩⟩
      · obtain ⟨z, hz, _⟩ := key 0 h0 0 hsz
        have := World.block_lt_of_cell? _ _ hz
        simpa [Addr.add] using this
      · obtain ⟨z, hz, hq⟩ := key i hi j hj
        have e : (⟨b, off, none⟩ : Addr).add (i * fs.size + j) = ⟨b, off + (i * fs.size + j), none⟩ := by
          rw [Go.WideShapes.add_plain]
        rw [e] at hz
        have hF : F i j = z := by simp only [F, hz, Option.getD_some]
        rw [hF, hz]
        exact ⟨rfl, hq⟩
/-- Rows of things, read. -/
theorem has_of_cells {α : Type} {enc : α → List Value} {k n cap : Nat} {A : Option Addr} (hE : ∀ x, (enc x).length = k) (hk : 0 < k) {xs : List α} (hl : xs.length = n) (hnc : n ≤ cap) (hA : A = none → cap = 0)
    (hc : 0 < n → ∃ b off, A = some ⟨b, off, none⟩ ∧ b < w.heap.size ∧ ∀ (i j : Nat) (x : α), xs[i]? = some x → j < k → w.cell? ⟨b, off + (i * k + j), none⟩ = (enc x)[j]?) :
    Has w w.heap.size k enc (.slice A n cap) xs := by
  have hfl : ∀ (l : List α) (i j : Nat) (m : α), l[i]? = some m → j < k → (l.flatMap enc)[i * k + j]? = (enc m)[j]? := fun l i j m hi hj => by
    induction l generalizing i with
    | nil => cases hi
    | cons x l ih =>
      rw [List.flatMap_cons]
      cases i with
      | zero =>
        obtain rfl := Option.some.inj hi
        rw [Nat.zero_mul, Nat.zero_add, List.getElem?_append_left (by rw [hE]; exact hj)]
      | succ i =>
        rw [List.getElem?_append_right (by rw [hE, Nat.add_mul, Nat.one_mul]; omega), show (i + 1) * k + j - (enc x).length = i * k + j by rw [hE, Nat.add_mul, Nat.one_mul]; omega]
        exact ih i hi
  have hlen : (xs.flatMap enc).length = n * k := by
    rw [← hl]
    clear hc hl
    induction xs with
    | nil => simp
    | cons x l ih => rw [List.flatMap_cons, List.length_append, ih, hE, List.length_cons, Nat.add_mul, Nat.one_mul, Nat.add_comm]
  refine ⟨A, cap, by rw [hl], by omega, hA, ⟨by rw [hl]; exact hlen, fun h0 => ?_⟩, fun g e h0 => ?_⟩
  · obtain ⟨b, off, rfl, hb, hcell⟩ := hc (by omega)
    refine ⟨⟨b, off, none⟩, rfl, hb, fun j u hu => ?_⟩
    have hjl : j < n * k := by
      have h1 := (List.getElem?_eq_some_iff.1 hu).1
      rwa [hlen] at h1
    have hdt : j / k < xs.length := by rw [hl]; exact (Nat.div_lt_iff_lt_mul hk).2 hjl
    have hmt : j % k < k := Nat.mod_lt _ hk
    have e : j / k * k + j % k = j := by rw [Nat.mul_comm]; exact Nat.div_add_mod j k
    have h1 := hfl xs _ _ _ (List.getElem?_eq_getElem hdt) hmt
    have h2 := hcell _ _ _ (List.getElem?_eq_getElem hdt) hmt
    rw [e] at h1 h2
    rw [Go.WideShapes.add_plain, h2, ← h1, hu]
  · obtain ⟨b, off, rfl, hb, _⟩ := hc (by omega)
    obtain rfl := Option.some.inj e
    exact ⟨rfl, hb⟩
end
end Go.Proofs.YtjlooeaffbnjgaaGreat
