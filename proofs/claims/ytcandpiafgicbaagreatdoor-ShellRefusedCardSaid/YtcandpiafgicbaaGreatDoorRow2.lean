/- Slices that hold things of some cells each, as lists: rows of the call's own, and rows that are only read. -/
import Derived.Test.YtcandpiafgicbaaGreatDoorRow
namespace Go.Proofs.YtcandpiafgicbaaGreatDoor
open Go.RowKit
set_option linter.unusedVariables false
set_option linter.unusedSectionVars false
section
variable {α : Type} {enc : α → List Value} {sz : Nat}
theorem flat_len (hE : ∀ x, (enc x).length = sz) (xs : List α) : (xs.flatMap enc).length = xs.length * sz := by
  induction xs with
  | nil => simp
  | cons x xs ih => rw [List.flatMap_cons, List.length_append, hE, ih, List.length_cons, Nat.succ_mul, Nat.add_comm]
theorem flat_get (hE : ∀ x, (enc x).length = sz) : ∀ (xs : List α) (i j : Nat) (x : α), xs[i]? = some x → j < sz → (xs.flatMap enc)[i * sz + j]? = (enc x)[j]?
  | [], i, j, x, h, _ => by simp at h
  | y :: xs, 0, j, x, h, hj => by
    obtain rfl : y = x := by simpa using h
    rw [List.flatMap_cons, Nat.zero_mul, Nat.zero_add, List.getElem?_append_left (by rw [hE]; exact hj)]
  | y :: xs, i + 1, j, x, h, hj => by
    rw [List.flatMap_cons, List.getElem?_append_right (by rw [hE, Nat.succ_mul]; omega), hE, show (i + 1) * sz + j - sz = i * sz + j by rw [Nat.succ_mul]; omega]
    exact flat_get hE xs i j x (by simpa using h) hj
theorem flat_set (hE : ∀ x, (enc x).length = sz) : ∀ (xs : List α) (i j : Nat) (x x' : α) (u : Value), xs[i]? = some x → j < sz → enc x' = (enc x).set j u → (xs.flatMap enc).set (i * sz + j) u = (xs.set i x').flatMap enc
  | [], i, j, x, x', u, h, _, _ => by simp at h
  | y :: xs, 0, j, x, x', u, h, hj, he => by
    obtain rfl : y = x := by simpa using h
    rw [List.flatMap_cons, Nat.zero_mul, Nat.zero_add, List.set_append_left _ _ (by rw [hE]; exact hj), List.set_cons_zero, List.flatMap_cons, he]
  | y :: xs, i + 1, j, x, x', u, h, hj, he => by
    rw [List.flatMap_cons, List.set_append_right _ _ (by rw [hE, Nat.succ_mul]; omega), hE, show (i + 1) * sz + j - sz = i * sz + j by rw [Nat.succ_mul]; omega, List.set_cons_succ, List.flatMap_cons]
    rw [flat_set hE xs i j x x' u (by simpa using h) hj he]
/-- v is a slice in a block of the call's own (from block B on), and holds xs. -/
def Own (w : World) (B : Nat) (T : TypeId) (sz : Nat) (enc : α → List Value) (v : Value) (xs : List α) : Prop := w.ownsRow B T sz v xs.length (xs.flatMap enc)
/-- v is a slice that holds xs; its block is below B. -/
def Has (w : World) (B : Nat) (sz : Nat) (enc : α → List Value) (v : Value) (xs : List α) : Prop :=
  ∃ A cap, v = .slice A xs.length cap ∧ xs.length ≤ cap ∧ (A = none → cap = 0) ∧ Reads w B sz A xs.length (xs.flatMap enc) ∧ ∀ g, A = some g → 0 < xs.length → g.spot = none ∧ g.block < B
variable {w w' : World} {B B' : Nat} {T : TypeId} {v : Value} {xs : List α}
theorem Own.nil : Own w B T sz enc (.slice none 0 0) ([] : List α) := World.ownsRow_nil _ _ _ _
theorem Own.form (h : Own w B T sz enc v xs) : ∃ A cap, v = .slice A xs.length cap ∧ xs.length ≤ cap ∧ ((A = none ∧ xs = [] ∧ cap = 0) ∨ ∃ g, A = some ⟨g, 0, none⟩ ∧ B ≤ g ∧ g < w.heap.size) := by
  have hl := h.lt
  rcases h.2 with ⟨rfl, h0⟩ | ⟨g, cap, cur, hv, hb, hg, h1, _⟩
  · have : xs = [] := List.eq_nil_of_length_eq_zero h0
    exact ⟨none, 0, by rw [h0], by omega, .inl ⟨rfl, this, rfl⟩⟩
  · exact ⟨_, cap, hv, h1, .inr ⟨g, rfl, hb, (hl g (by rw [hv]; rfl)).2⟩⟩
theorem Own.form1 (h : Own w B T sz enc v xs) (hn : 0 < xs.length) : ∃ g cap, v = .slice (some ⟨g, 0, none⟩) xs.length cap ∧ xs.length ≤ cap ∧ B ≤ g ∧ g < w.heap.size := by
  obtain ⟨A, cap, rfl, h1, h2 | ⟨g, rfl, h3, h4⟩⟩ := h.form
  · have := h2.2.1
    subst this
    simp at hn
  · exact ⟨g, cap, rfl, h1, h3, h4⟩
theorem Own.cell {g n cap : Nat} (hE : ∀ x, (enc x).length = sz) (h : Own w B T sz enc (.slice (some ⟨g, 0, none⟩) n cap) xs) {i : Nat} {x : α} (hi : xs[i]? = some x) {j : Nat} (hj : j < sz) : w.cell? ⟨g, i * sz + j, none⟩ = (enc x)[j]? := by
  have hl : i < xs.length := by
    rcases Nat.lt_or_ge i xs.length with h' | h'
    · exact h'
    · rw [List.getElem?_eq_none h'] at hi; cases hi
  have hn : n = xs.length := by
    obtain ⟨A, c, e, _⟩ := h.form
    injection e
  subst hn
  rw [World.ownsRow.cellAt h (i * sz + j) (by have := Nat.mul_le_mul_right sz (show i + 1 ≤ xs.length by omega); rw [Nat.succ_mul] at this; omega)]
  exact flat_get hE xs i j x hi hj
theorem Own.free {g n cap : Nat} (h : Own w B T sz enc (.slice (some ⟨g, 0, none⟩) n cap) xs) (i : Nat) : w.frozen? ⟨g, i, none⟩ = false := by
  have hn : n = xs.length := by
    obtain ⟨A, c, e, _⟩ := h.form
    injection e
  subst hn
  exact World.ownsRow.frozenAt h i
theorem Own.set {g n cap : Nat} (hE : ∀ x, (enc x).length = sz) (h : Own w B T sz enc (.slice (some ⟨g, 0, none⟩) n cap) xs) {i : Nat} {x : α} (hi : xs[i]? = some x) {j : Nat} (hj : j < sz) (u : Value) (x' : α) (he : enc x' = (enc x).set j u) :
    Own (w.setCell ⟨g, i * sz + j, none⟩ u) B T sz enc (.slice (some ⟨g, 0, none⟩) n cap) (xs.set i x') := by
  have hn : n = xs.length := by
    obtain ⟨A, c, e, _⟩ := h.form
    injection e
  subst hn
  have := (World.ownsRow.stored h (i * sz + j) u).1
  rw [flat_set hE xs i j x x' u hi hj he] at this
  unfold Own
  rw [List.length_set]
  exact this
theorem Own.len (h : Own w B T sz enc v xs) {A : Option Addr} {n cap : Nat} (e : v = .slice A n cap) : n = xs.length := by
  obtain ⟨A', c', e', _⟩ := h.form
  rw [e'] at e
  injection e with _ e2 _
  exact e2.symm
theorem Own.le (h : Own w B T sz enc v xs) (hB : B' ≤ B) : Own w B' T sz enc v xs := by
  refine ⟨h.1, ?_⟩
  rcases h.2 with h2 | ⟨g, cap, cur, hv, hb, rest⟩
  · exact .inl h2
  · exact .inr ⟨g, cap, cur, hv, Nat.le_trans hB hb, rest⟩
theorem Own.mod {S : Nat → Prop} (m : Mod S w w') (h : Own w B T sz enc v xs) (hs : ∀ k, v.ownBlock = some k → ¬ S k) : Own w' B T sz enc v xs := own_mod m h hs
theorem Own.later (m : Mod (fun _ => False) w w') (h : Own w B T sz enc v xs) : Own w' B T sz enc v xs := own_mod m h fun _ _ e => e
/-- A block of the call's own lies at B or behind. -/
theorem Own.base (h : Own w B T sz enc v xs) {k : Nat} (hk : v.ownBlock = some k) : B ≤ k := by
  obtain ⟨A, cap, rfl, _, h2 | ⟨g, rfl, h3, _⟩⟩ := h.form
  · rw [h2.1] at hk; simp [Value.ownBlock] at hk
  · have : g = k := by simpa [Value.ownBlock] using hk
    omega
theorem Own.has (h : Own w B T sz enc v xs) : Has w w.heap.size sz enc v xs := by
  obtain ⟨A, cap, rfl, h1, h2 | ⟨g, rfl, h3, h4⟩⟩ := h.form
  · obtain ⟨rfl, rfl, rfl⟩ := h2
    exact ⟨none, 0, rfl, Nat.le_refl _, fun _ => rfl, Reads.none_, fun g e _ => by cases e⟩
  · refine ⟨_, cap, rfl, h1, (fun e => by cases e), Reads.of_own h, fun a e _ => ?_⟩
    obtain rfl := Option.some.inj e
    exact ⟨rfl, h4⟩
theorem Has.nil : Has w B sz enc (.slice none 0 0) ([] : List α) := ⟨none, 0, rfl, Nat.le_refl _, fun _ => rfl, Reads.none_, fun g e _ => by cases e⟩
theorem Has.keep (h : Has w B sz enc v xs) (hk : ∀ p : Addr, p.block < B → w'.cell? p = w.cell? p) : Has w' B sz enc v xs := by
  obtain ⟨A, cap, e, h1, h2, h3, h4⟩ := h
  exact ⟨A, cap, e, h1, h2, h3.keep hk, h4⟩
theorem Has.more (h : Has w B sz enc v xs) (hB : B ≤ B') : Has w B' sz enc v xs := by
  obtain ⟨A, cap, e, h1, h2, h3, h4⟩ := h
  exact ⟨A, cap, e, h1, h2, h3.more hB, fun g e hn => ⟨(h4 g e hn).1, Nat.lt_of_lt_of_le (h4 g e hn).2 hB⟩⟩
theorem Has.later (m : Mod (fun _ => False) w w') (h : Has w B sz enc v xs) (hB : B ≤ w.heap.size) : Has w' B sz enc v xs :=
  h.keep fun p hp => m.cell (Nat.lt_of_lt_of_le hp hB) fun e => e
theorem Has.drew (h : Has w B sz enc v xs) : Has w.drew B sz enc v xs := h
theorem Has.drewN (h : Has w B sz enc v xs) (k : Nat) : Has (w.drewN k) B sz enc v xs := h
/-- The block that a slice lies in. -/
theorem Has.mod {S : Nat → Prop} (m : Mod S w w') (h : Has w B sz enc v xs) (hB : B ≤ w.heap.size) (hs : ∀ k, v.ownBlock = some k → ¬ S k) : Has w' B sz enc v xs := by
  obtain ⟨A, cap, rfl, h1, h2, h3, h4⟩ := h
  refine ⟨A, cap, rfl, h1, h2, ⟨h3.1, fun hn => ?_⟩, h4⟩
  obtain ⟨ad, rfl, hb, hc⟩ := h3.2 hn
  refine ⟨ad, rfl, hb, fun j u hu => ?_⟩
  have hbl := block_of_add ad (n := j)
  rw [m.cell (p := ad.add j) (by rw [hbl]; omega) (by rw [hbl]; exact hs _ rfl)]
  exact hc j u hu
theorem Has.form (h : Has w B sz enc v xs) : ∃ A cap, v = .slice A xs.length cap ∧ xs.length ≤ cap := by
  obtain ⟨A, cap, e, h1, _⟩ := h
  exact ⟨A, cap, e, h1⟩
theorem Has.len (h : Has w B sz enc v xs) {A : Option Addr} {n cap : Nat} (e : v = .slice A n cap) : n = xs.length := by
  obtain ⟨A', c', e', _⟩ := h.form
  rw [e'] at e
  injection e with _ e2 _
  exact e2.symm
theorem Has.at_ (hE : ∀ x, (enc x).length = sz) {A : Option Addr} {n cap : Nat} (h : Has w B sz enc (.slice A n cap) xs) {i : Nat} {x : α} (hi : xs[i]? = some x) :
    ∃ g off, A = some ⟨g, off, none⟩ ∧ g < B ∧ ∀ j, j < sz → w.cell? ⟨g, off + (i * sz + j), none⟩ = (enc x)[j]? := by
  obtain ⟨A', cap', e, h1, h2, h3, h4⟩ := h
  injection e with e1 e2 e3
  subst e1
  have hl : i < xs.length := by
    rcases Nat.lt_or_ge i xs.length with h' | h'
    · exact h'
    · rw [List.getElem?_eq_none h'] at hi; cases hi
  obtain ⟨ad, rfl, hb, hc⟩ := h3.2 (by omega)
  obtain ⟨g, off, el⟩ := ad
  have := (h4 _ rfl (by omega)).1
  simp only at this
  subst this
  refine ⟨g, off, rfl, hb, fun j hj => ?_⟩
  have hf := flat_get hE xs i j x hi hj
  have hx : j < (enc x).length := by rw [hE]; exact hj
  rw [List.getElem?_eq_getElem hx] at hf ⊢
  have := hc _ _ hf
  unfold Addr.add at this
  split at this
  · rename_i h0
    rw [h0, Nat.add_zero]
    exact this
  · exact this
/-- A slice behind its first k things. -/
theorem Has.cut {A : Option Addr} {n cap k : Nat} (hE : ∀ x, (enc x).length = sz) (h : Has w B sz enc (.slice A n cap) xs) (hk : k ≤ n) :
    Has w B sz enc (.slice (if cap = k then A else A.map (·.add (k * sz))) (n - k) (cap - k)) (xs.drop k) := by
  obtain ⟨A', cap', e, h1, h2, h3, h4⟩ := h
  injection e with e1 e2 e3
  subst e1 e2 e3
  have hr := h3.cut hk h1
  have hd : (xs.flatMap enc).drop (k * sz) = (xs.drop k).flatMap enc := by
    have : ∀ (k : Nat) (xs : List α), (xs.flatMap enc).drop (k * sz) = (xs.drop k).flatMap enc := fun k => by
      induction k with
      | zero => intro xs; simp
      | succ k ih =>
        intro xs
        cases xs with
        | nil => simp
        | cons x xs =>
          rw [List.flatMap_cons, List.drop_succ_cons, ← ih, Nat.succ_mul, Nat.add_comm, ← List.drop_drop]
          rw [show (enc x ++ xs.flatMap enc).drop sz = xs.flatMap enc by rw [← hE x, List.drop_left]]
    exact this k xs
  rw [hd] at hr
  refine ⟨_, cap - k, by rw [List.length_drop], by rw [List.length_drop]; omega, fun e => ?_, by rw [List.length_drop]; exact hr, fun g e hn => ?_⟩
  · by_cases hc : cap = k
    · omega
    · rw [if_neg hc] at e
      have := h2 (by simpa using e)
      omega
  · by_cases hc : cap = k
    · rw [List.length_drop] at hn; omega
    · rw [if_neg hc] at e
      obtain ⟨a, ha, rfl⟩ := Option.map_eq_some_iff.1 e
      have := h4 a ha (by rw [List.length_drop] at hn; omega)
      refine ⟨?_, by rw [block_of_add]; exact this.2⟩
      obtain ⟨gb, go, ge⟩ := a
      have he := this.1
      simp only at he
      subst he
      unfold Addr.add
      split <;> rfl
/-- One thing more at the end. -/
theorem flat_snoc (xs : List α) (x : α) : (xs ++ [x]).flatMap enc = xs.flatMap enc ++ enc x := by simp
end
/-- Integers, a cell each. -/
def encI (z : Int) : List Value := [.int .i64 z]
theorem encI_len (z : Int) : (encI z).length = 1 := rfl
theorem flat_I (zs : List Int) : zs.flatMap encI = zs.map (Value.int .i64) := by
  induction zs with
  | nil => rfl
  | cons z zs ih => rw [List.flatMap_cons, ih]; rfl
theorem one_I (z : Int) : ∀ y ∈ [Value.int .i64 z], y.oneCell' = true := fun y hy => by
  simp at hy
  subst hy
  rfl
end Go.Proofs.YtcandpiafgicbaaGreatDoor
