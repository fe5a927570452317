/- Arguments that are slices of messages. -/
import Derived.Test.YtigkndbkaagboaaGreatDoorRows
import Derived.Test.YtigkndbkaagboaaGreatDoorSrM
import Derived.Test.YtigkndbkaagboaaGreatDoorRow2
import Derived.WalkKit
import Derived.ProofKit
import Derived.OpenShut
import Derived.ChangeSlices
import Derived.Deep.Slices
import Derived.Deep.Fields
namespace Go.Proofs.YtigkndbkaagboaaGreatDoor
open Go.ChangeShapes Go.WideShapes Go.RowKit Go.Deep
set_option linter.unusedVariables false
set_option linter.unusedSimpArgs false
section
variable {H : Type} {enc : TypeId × Value → H} {P : Program} {w : World}
/-- A row of things that are whole numbers, of which each has its kind. -/
theorem open_kinds (kd : Nat → IntKind) {t e : TypeId} {fs : Array Field} {v : Value} {d : DataW H} {p : List MemPlace} (ht : P.underlying t = some (.slice e)) (he : P.underlying e = some (.struct fs))
    (hone : oneCellFields P fs = true) (hC : P.cellsOf e = fs.size) (hsz : 0 < fs.size) (hint : ∀ (j : Nat) (f : Field), fs[j]? = some f → P.underlying f.type = some (.int (kd j)))
    (hv : Value.okWide P w .any 0 t v) (h : DataW.Trod enc P w 0 (fun _ => true) true t v d p) :
    ∃ (A : Option Addr) (n cap : Nat) (F : Nat → Nat → Int), v = .slice A n cap ∧ n ≤ cap ∧ n ≤ 9223372036854775807 ∧ (A = none → cap = 0) ∧ (0 < n → ∃ b off, A = some ⟨b, off, none⟩ ∧ b < w.heap.size ∧
      ∀ i j, i < n → j < fs.size → w.cell? ⟨b, off + (i * fs.size + j), none⟩ = some (.int (kd j) (F i j)) ∧ (Lit.int (kd j) (F i j)).wf = true) := by
  obtain ⟨a0, len, cap, rfl⟩ := okWide_slice ht hv
  obtain ⟨fuel, hf⟩ := h
  rcases open_slice ht hf with ⟨h0, _⟩ | ⟨a, len', cap', m, n, D, Pl, hcs, hb, hl, hm, hmm, hx, hi⟩
  · simp [Value.cells] at h0
    obtain ⟨rfl, rfl, rfl⟩ := h0
    exact ⟨none, 0, 0, fun _ _ => 0, rfl, Nat.le_refl _, by omega, fun _ => rfl, fun h => absurd h (by omega)⟩
  · simp [Value.cells] at hcs
    obtain ⟨rfl, rfl, rfl⟩ := hcs
    simp only [if_true] at hmm
    subst hmm
    have hmax : len ≤ 9223372036854775807 := by unfold maxLen at hm; omega
    have key : ∀ i, i < len → ∀ j, j < fs.size → ∃ z : Int, w.cell? (a.add (i * fs.size + j)) = some (.int (kd j) z) ∧ (Lit.int (kd j) z).wf = true := by
      intro i him j hj
      obtain ⟨cs', hc, ht'⟩ := hi i (by omega)
      rw [hC] at hc
      obtain ⟨ys, n', hn', hy, hlen, hyl, hf2⟩ := DataW.trod_struct he ht'
      obtain ⟨_, hcl, hat⟩ := World.cells?_some hc
      have hfj : fs[j]? = some (fs[j]) := Array.getElem?_eq_getElem hj
      obtain ⟨ho, hk⟩ := hone_of hone j _ hfj
      have hcell := hat j hj
      have h1 := hf2 j _ hfj
      rw [ho, hk] at h1
      have hone' : (cs'.drop j).take 1 = [cs'[j]'(by omega)] := by
        rw [List.drop_eq_getElem_cons (by omega)]
        rfl
      rw [hone'] at h1
      have hys : ys[j]? = some (ys[j]'(by omega)) := List.getElem?_eq_getElem (by omega)
      obtain ⟨z, hz, _, hwf⟩ := DataW.trod_int (hint j _ hfj) (h1.trans hys)
      refine ⟨z, ?_, hwf⟩
      rw [← Go.Deep.add_add, hcell, List.getElem?_eq_getElem (by omega)]
      congr 1
      simpa using hz
    rcases Nat.eq_zero_or_pos len with h0 | h0
    · exact ⟨some a, len, _, fun _ _ => 0, rfl, by omega, hmax, fun e => (by cases e), fun h => absurd h (by omega)⟩
    · have : ∃ b off, a = ⟨b, off, none⟩ := by
        obtain ⟨z, hz, _⟩ := key 0 h0 0 hsz
        obtain ⟨b, off, spot⟩ := a
        have hspot : spot = none := by simpa [Addr.add] using World.cell?_spot hz
        exact ⟨b, off, by rw [hspot]⟩
      obtain ⟨b, off, rfl⟩ := this
      let F : Nat → Nat → Int := fun i j => match w.cell? ⟨b, off + (i * fs.size + j), none⟩ with | some (.int _ z) => z | _ => 0
      refine ⟨some ⟨b, off, none⟩, len, _, F, rfl, by omega, hmax, fun e => (by cases e), fun _ => ⟨b, off, rfl, ?_, fun i j hi hj => ?_⟩⟩
      · obtain ⟨z, hz, _⟩ := key 0 h0 0 hsz
        have := World.block_lt_of_cell? _ _ hz
        simpa [Addr.add] using this
      · obtain ⟨z, hz, hwf⟩ := key i hi j hj
        have e : (⟨b, off, none⟩ : Addr).add (i * fs.size + j) = ⟨b, off + (i * fs.size + j), none⟩ := by
          rw [Go.WideShapes.add_plain]
        rw [e] at hz
        show w.cell? _ = some (.int (kd j) (match w.cell? ⟨b, off + (i * fs.size + j), none⟩ with | some (.int _ z) => z | _ => 0)) ∧ _
        simp only [F, hz]
        exact ⟨trivial, hwf⟩
/-- Messages that came in. -/
theorem open_ms {t e : TypeId} {fs : Array Field} {v : Value} {d : DataW H} {p : List MemPlace} (ht : P.underlying t = some (.slice e)) (he : P.underlying e = some (.struct fs))
    (hone : oneCellFields P fs = true) (hC : P.cellsOf e = fs.size) (hsz : fs.size = 6) (hint : ∀ (j : Nat) (f : Field), fs[j]? = some f → P.underlying f.type = some (.int (if j = 1 then .u64 else .i64)))
    (hv : Value.okWide P w .any 0 t v) (h : DataW.Trod enc P w 0 (fun _ => true) true t v d p) : ∃ ms : List Ms, Has w w.heap.size 6 encM v ms ∧ ms.length ≤ 9223372036854775807 := by
  obtain ⟨A, n, cap, F, rfl, hnc, hn9, hA, hk⟩ := open_kinds (fun j => if j = 1 then .u64 else .i64) ht he hone hC (by omega) hint hv h
  rw [hsz] at hk
  let ms : List Ms := (List.range n).map fun i => ⟨F i 0, F i 1, F i 2, F i 3, F i 4, F i 5⟩
  have hl : ms.length = n := by simp [ms]
  have hfl : ∀ (l : List Ms) (i j : Nat) (m : Ms), l[i]? = some m → j < 6 → (l.flatMap encM)[i * 6 + j]? = (encM m)[j]? := fun l i j m hi hj => by
    induction l generalizing i with
    | nil => cases hi
    | cons x l ih =>
      rw [List.flatMap_cons]
      cases i with
      | zero =>
        obtain rfl := Option.some.inj hi
        rw [Nat.zero_mul, Nat.zero_add, List.getElem?_append_left (by exact hj)]
      | succ i =>
        rw [List.getElem?_append_right (by show 6 ≤ _; omega), show (i + 1) * 6 + j - (encM x).length = i * 6 + j by show _ - 6 = _; omega]
        exact ih i hi
  refine ⟨ms, ⟨A, cap, by rw [hl], by omega, hA, ⟨?_, fun h0 => ?_⟩, fun g e h0 => ?_⟩, by omega⟩
  · rw [List.length_flatMap]
    have : (ms.map fun x => (encM x).length) = List.replicate ms.length 6 := by
      rw [List.eq_replicate_iff]
      exact ⟨by simp, fun b hb => by
        obtain ⟨x, _, rfl⟩ := List.mem_map.1 hb
        rfl⟩
    rw [this, List.sum_replicate_nat]
  · obtain ⟨b, off, rfl, hb, hc⟩ := hk (by omega)
    refine ⟨⟨b, off, none⟩, rfl, hb, fun j u hu => ?_⟩
    have hjl : j < n * 6 := by
      have h1 := (List.getElem?_eq_some_iff.1 hu).1
      rw [List.length_flatMap] at h1
      have : (ms.map fun x => (encM x).length) = List.replicate ms.length 6 := by
        rw [List.eq_replicate_iff]
        exact ⟨by simp, fun b hb => by
          obtain ⟨x, _, rfl⟩ := List.mem_map.1 hb
          rfl⟩
      rw [this, List.sum_replicate_nat, hl] at h1
      exact h1
    obtain ⟨i, r, hr, rfl⟩ : ∃ i r, r < 6 ∧ j = i * 6 + r := ⟨j / 6, j % 6, by omega, by omega⟩
    have hin : i < n := by omega
    have hm : ms[i]? = some ⟨F i 0, F i 1, F i 2, F i 3, F i 4, F i 5⟩ := by
      simp only [ms]
      rw [List.getElem?_map, List.getElem?_range hin]
      rfl
    rw [hfl ms i r _ hm hr] at hu
    have hcell := (hc i r hin hr).1
    rw [Go.WideShapes.add_plain, hcell, ← hu]
    rcases (by omega : r = 0 ∨ r = 1 ∨ r = 2 ∨ r = 3 ∨ r = 4 ∨ r = 5) with rfl | rfl | rfl | rfl | rfl | rfl <;> rfl
  · obtain ⟨b, off, rfl, hb, hc⟩ := hk (by omega)
    obtain rfl := Option.some.inj e
    exact ⟨rfl, hb⟩
end
end Go.Proofs.YtigkndbkaagboaaGreatDoor
