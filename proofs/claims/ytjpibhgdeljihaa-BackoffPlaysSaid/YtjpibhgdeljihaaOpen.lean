/- Arguments that are slices: what their cells hold. -/
import Derived.Test.YtjpibhgdeljihaaRows
import Derived.WalkKit
import Derived.ProofKit
import Derived.OpenShut
import Derived.Deep.Slices
import Derived.Deep.Fields
namespace Go.Proofs.Ytjpibhgdeljihaa
open Go.ChangeShapes Go.WideShapes Go.RowKit Go.Deep
set_option linter.unusedVariables false
/-- A slice value over rows of whole numbers: row i, column j holds f i j. -/
def IRows (w : World) (size : Nat) (v : Value) (n : Nat) (f : Nat → Nat → Int) : Prop :=
  ∃ A cap, v = .slice A n cap ∧ n ≤ 9223372036854775807 ∧ (0 < n → ∃ b off, A = some ⟨b, off, none⟩ ∧ b < w.heap.size ∧
    ∀ i j, i < n → j < size → w.cell? ⟨b, off + i * size + j, none⟩ = some (.int .i64 (f i j)) ∧ -9223372036854775808 ≤ f i j ∧ f i j ≤ 9223372036854775807)
section
variable {H : Type} {enc : TypeId × Value → H} {P : Program} {w : World}
theorem open_irows {t e : TypeId} {fs : Array Field} {v : Value} {d : DataW H} {p : List MemPlace} (ht : P.underlying t = some (.slice e)) (he : P.underlying e = some (.struct fs))
    (hone : oneCellFields P fs = true) (hC : P.cellsOf e = fs.size) (hsz : 0 < fs.size) (hint : ∀ (j : Nat) (f : Field), fs[j]? = some f → P.underlying f.type = some (.int .i64))
    (hv : Value.okWide P w .any 0 t v) (h : DataW.Trod enc P w 0 (fun _ => true) true t v d p) : ∃ x : Nat × (Nat → Nat → Int), IRows w fs.size v x.1 x.2 := by
  obtain ⟨a0, len, cap, rfl⟩ := okWide_slice ht hv
  have lt : ∀ x ∈ p, x.block < w.heap.size := by obtain ⟨m, hm⟩ := h; exact DataW.trod_lt m _ _ _ hm
  obtain ⟨fuel, hf⟩ := h
  rcases open_slice ht hf with ⟨h0, _⟩ | ⟨a, len', cap', m, n, D, Pl, hcs, hb, hl, hm, hmm, hx, hi⟩
  · simp [Value.cells] at h0
    obtain ⟨rfl, rfl, rfl⟩ := h0
    exact ⟨(0, fun _ _ => 0), none, 0, rfl, by omega, fun h => absurd h (by omega)⟩
  · simp [Value.cells] at hcs
    obtain ⟨rfl, rfl, rfl⟩ := hcs
    simp only [if_true] at hmm
    subst hmm
    have hmax : len ≤ 9223372036854775807 := by unfold maxLen at hm; omega
    have key : ∀ i, i < len → ∀ j, j < fs.size → ∃ z : Int, w.cell? (a.add (i * fs.size + j)) = some (.int .i64 z) ∧ -9223372036854775808 ≤ z ∧ z ≤ 9223372036854775807 := by
      intro i him j hj
      obtain ⟨cs', hc, ht'⟩ := hi i (by omega)
      rw [hC] at hc
      obtain ⟨ys, n', hn', hy, hlen, hyl, hf2⟩ := DataW.trod_struct he ht'
      obtain ⟨_, hcl, hat⟩ := World.cells?_some hc
      have hfj : fs[j]? = some (fs[j]) := Array.getElem?_eq_getElem hj
      obtain ⟨ho, hk⟩ := hone_of hone j _ hfj
      have hcell := hat j hj
      have h1 := hf2 j _ hfj
      rw [ho, hk] at h1
      have hone' : (cs'.drop j).take 1 = [cs'[j]'(by omega)] := by
        rw [List.drop_eq_getElem_cons (by omega)]
        rfl
      rw [hone'] at h1
      have hys : ys[j]? = some (ys[j]'(by omega)) := List.getElem?_eq_getElem (by omega)
      obtain ⟨z, hz, _, hwf⟩ := DataW.trod_int (hint j _ hfj) (h1.trans hys)
      have hbd := bounds_i64 hwf
      refine ⟨z, ?_, hbd.1, hbd.2⟩
      rw [← Go.Deep.add_add, hcell, List.getElem?_eq_getElem (by omega)]
      congr 1
      simpa using hz
    rcases Nat.eq_zero_or_pos len with h0 | h0
    · exact ⟨(0, fun _ _ => 0), some a, _, by rw [h0], by omega, fun h => absurd h (by omega)⟩
    · have : ∃ b off, a = ⟨b, off, none⟩ := by
        obtain ⟨z, hz, _⟩ := key 0 h0 0 hsz
        obtain ⟨b, off, spot⟩ := a
        have hspot : spot = none := by simpa [Addr.add] using World.cell?_spot hz
        exact ⟨b, off, by rw [hspot]⟩
      obtain ⟨b, off, rfl⟩ := this
      let F : Nat → Nat → Int := fun i j => match w.cell? ⟨b, off + i * fs.size + j, none⟩ with | some (.int _ z) => z | _ => 0
      refine ⟨(len, F), some ⟨b, off, none⟩, _, rfl, hmax, fun _ => ⟨b, off, rfl, ?_, fun i j hi hj => ?_⟩⟩
      · obtain ⟨z, hz, _⟩ := key 0 h0 0 hsz
        have := World.block_lt_of_cell? _ _ hz
        simpa [Addr.add] using this
      · obtain ⟨z, hz, hb1, hb2⟩ := key i hi j hj
        have e : (⟨b, off, none⟩ : Addr).add (i * fs.size + j) = ⟨b, off + i * fs.size + j, none⟩ := by
          rw [Go.WideShapes.add_plain, Nat.add_assoc]
        rw [e] at hz
        show w.cell? _ = some (.int .i64 (match w.cell? ⟨b, off + i * fs.size + j, none⟩ with | some (.int _ z) => z | _ => 0)) ∧ _
        simp only [F, hz]
        exact ⟨trivial, hb1, hb2⟩
end
end Go.Proofs.Ytjpibhgdeljihaa
