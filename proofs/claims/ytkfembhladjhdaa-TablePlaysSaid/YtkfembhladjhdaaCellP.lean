/- Cells in the order of their keys (plain). -/
import Derived.Test.YtkfembhladjhdaaKeyP
namespace Go.Proofs.Ytkfembhladjhdaa
set_option linter.unusedVariables false
/-- A key, and what is there. -/
abbrev Cl := (Int × Int) × ByteArray
def sortedM (m : List Cl) : Prop := m.Pairwise fun a b => ltK a.1 b.1
/-- The place of a key. -/
def atM (m : List Cl) (k : Int × Int) : Nat := (m.takeWhile fun c => decide (ltK c.1 k)).length
/-- The cells hold what the map holds. -/
def alike (m : List Cl) (f : Int × Int → Option ByteArray) : Prop := ∀ (k : Int × Int) (v : ByteArray), (k, v) ∈ m ↔ f k = some v
theorem atM_le (m : List Cl) (k : Int × Int) : atM m k ≤ m.length := by
  unfold atM
  exact (List.takeWhile_sublist _).length_le
theorem atM_lt : ∀ (m : List Cl) (k : Int × Int) (i : Nat) (c : Cl), i < atM m k → m[i]? = some c → ltK c.1 k
  | [], k, i, c, h, e => by cases e
  | x :: m, k, i, c, h, e => by
    unfold atM at h
    rw [List.takeWhile_cons] at h
    split at h
    · rename_i hx
      cases i with
      | zero =>
        obtain rfl := Option.some.inj e
        simpa using hx
      | succ i => exact atM_lt m k i c (by simpa [atM] using h) e
    · simp at h
theorem atM_not : ∀ (m : List Cl) (k : Int × Int) (c : Cl), m[atM m k]? = some c → ¬ ltK c.1 k
  | [], k, c, e => by cases e
  | x :: m, k, c, e => by
    unfold atM at e
    rw [List.takeWhile_cons] at e
    split at e
    · exact atM_not m k c (by simpa [atM] using e)
    · rename_i hx
      obtain rfl := Option.some.inj e
      simpa using hx
/-- Where all ahead are less, and the one there is not, the place is. -/
theorem atM_of {m : List Cl} {k : Int × Int} {a : Nat} (hl : a ≤ m.length) (h1 : ∀ (i : Nat) (c : Cl), i < a → m[i]? = some c → ltK c.1 k) (h2 : ∀ c, m[a]? = some c → ¬ ltK c.1 k) : atM m k = a := by
  rcases Nat.lt_trichotomy (atM m k) a with h | h | h
  · have hb : atM m k < m.length := by omega
    exact absurd (h1 _ _ h (List.getElem?_eq_getElem hb)) (atM_not m k _ (List.getElem?_eq_getElem hb))
  · exact h
  · have := atM_le m k
    have hb : a < m.length := by omega
    exact absurd (atM_lt m k a _ h (List.getElem?_eq_getElem hb)) (h2 _ (List.getElem?_eq_getElem hb))
theorem sorted_get {m : List Cl} (hs : sortedM m) {i j : Nat} {a b : Cl} (hi : m[i]? = some a) (hj : m[j]? = some b) (h : i < j) : ltK a.1 b.1 := by
  obtain ⟨h1, e1⟩ := List.getElem?_eq_some_iff.1 hi
  obtain ⟨h2, e2⟩ := List.getElem?_eq_some_iff.1 hj
  have := List.pairwise_iff_getElem.1 hs i j h1 h2 h
  rw [e1, e2] at this
  exact this
/-- What is there of a key stands at its place. -/
theorem at_of_mem {m : List Cl} (hs : sortedM m) {k : Int × Int} {v : ByteArray} (h : (k, v) ∈ m) : m[atM m k]? = some (k, v) := by
  obtain ⟨i, hi⟩ := List.getElem?_of_mem h
  have hle := atM_le m k
  have hil := (List.getElem?_eq_some_iff.1 hi).1
  rcases Nat.lt_trichotomy (atM m k) i with h1 | h1 | h1
  · have hb : atM m k < m.length := by omega
    have h2 := sorted_get hs (List.getElem?_eq_getElem hb) hi h1
    exact absurd h2 (atM_not m k _ (List.getElem?_eq_getElem hb))
  · rw [h1]; exact hi
  · exact absurd (atM_lt m k i _ h1 hi) (ltK_irrefl _)
theorem alike_some {m : List Cl} {f : Int × Int → Option ByteArray} (hs : sortedM m) (ha : alike m f) {k : Int × Int} {v : ByteArray} (h : f k = some v) : m[atM m k]? = some (k, v) := at_of_mem hs ((ha k v).2 h)
theorem alike_none {m : List Cl} {f : Int × Int → Option ByteArray} (ha : alike m f) {k : Int × Int} (h : f k = none) {i : Nat} {c : Cl} (hc : m[i]? = some c) : c.1 ≠ k := fun e => by
  obtain ⟨k', v⟩ := c
  simp only at e
  subst e
  have := (ha k' v).1 (List.mem_of_getElem? hc)
  rw [h] at this
  cases this
theorem take_drop_at {m : List Cl} {k : Int × Int} {v : ByteArray} (h : m[atM m k]? = some (k, v)) : m = m.take (atM m k) ++ (k, v) :: m.drop (atM m k + 1) := by
  obtain ⟨hl, e⟩ := List.getElem?_eq_some_iff.1 h
  rw [← e, ← List.drop_eq_getElem_cons hl, List.take_append_drop]
/-- One more. -/
theorem ins_ok {m : List Cl} {f : Int × Int → Option ByteArray} (hs : sortedM m) (ha : alike m f) {k : Int × Int} (hk : f k = none) (v : ByteArray) :
    sortedM (m.take (atM m k) ++ [(k, v)] ++ m.drop (atM m k)) ∧ alike (m.take (atM m k) ++ [(k, v)] ++ m.drop (atM m k)) (fun k' => if k' = k then some v else f k') := by
  have h1 : ∀ c ∈ m.take (atM m k), ltK c.1 k := fun c hc => by
    obtain ⟨i, hi⟩ := List.getElem?_of_mem hc
    rw [List.getElem?_take] at hi
    split at hi
    · rename_i hlt
      exact atM_lt m k i c hlt hi
    · cases hi
  have h2 : ∀ c ∈ m.drop (atM m k), ltK k c.1 := fun c hc => by
    obtain ⟨i, hi⟩ := List.getElem?_of_mem hc
    rw [List.getElem?_drop] at hi
    have hne := alike_none ha hk hi
    have hb : atM m k < m.length := by
      have := (List.getElem?_eq_some_iff.1 hi).1
      omega
    have hn : ¬ ltK c.1 k := by
      rcases Nat.eq_zero_or_pos i with h0 | h0
      · subst h0
        exact atM_not m k c hi
      · have h3 := sorted_get hs (List.getElem?_eq_getElem hb) hi (by omega)
        exact fun e => atM_not m k _ (List.getElem?_eq_getElem hb) (ltK_trans h3 e)
    by_cases h4 : ltK k c.1
    · exact h4
    · exact absurd (ltK_tot hn h4) hne
  refine ⟨?_, fun k' v' => ?_⟩
  · unfold sortedM
    rw [List.append_assoc, List.pairwise_append]
    refine ⟨hs.sublist (List.take_sublist _ _), ?_, fun a ha b hb => ?_⟩
    · rw [List.singleton_append, List.pairwise_cons]
      exact ⟨fun b hb => h2 b hb, hs.sublist (List.drop_sublist _ _)⟩
    · rw [List.singleton_append] at hb
      rcases List.mem_cons.1 hb with rfl | hb
      · exact h1 a ha
      · exact ltK_trans (h1 a ha) (h2 b hb)
  · have hmem : (k', v') ∈ m.take (atM m k) ++ [(k, v)] ++ m.drop (atM m k) ↔ (k', v') = (k, v) ∨ (k', v') ∈ m := by
      constructor
      · intro h
        rcases List.mem_append.1 h with h | h
        · rcases List.mem_append.1 h with h | h
          · exact .inr (List.mem_of_mem_take h)
          · exact .inl (List.mem_singleton.1 h)
        · exact .inr (List.mem_of_mem_drop h)
      · rintro (h | h)
        · exact List.mem_append_left _ (List.mem_append_right _ (List.mem_singleton.2 h))
        · rw [← List.take_append_drop (atM m k) m] at h
          rcases List.mem_append.1 h with h | h
          · exact List.mem_append_left _ (List.mem_append_left _ h)
          · exact List.mem_append_right _ h
    rw [hmem]
    show _ ↔ (if k' = k then some v else f k') = some v'
    by_cases e : k' = k
    · subst e
      rw [if_pos rfl]
      constructor
      · rintro (h | h)
        · injection h with _ h; rw [h]
        · have := (ha k' v').1 h
          rw [hk] at this
          cases this
      · intro h
        exact .inl (by rw [Option.some.inj h])
    · rw [if_neg e]
      constructor
      · rintro (h | h)
        · injection h with h _; exact absurd h e
        · exact (ha k' v').1 h
      · exact fun h => .inr ((ha k' v').2 h)
/-- Another thing there. -/
theorem set_okM {m : List Cl} {f : Int × Int → Option ByteArray} (hs : sortedM m) (ha : alike m f) {k : Int × Int} {u : ByteArray} (hk : f k = some u) (v : ByteArray) :
    sortedM (m.set (atM m k) (k, v)) ∧ alike (m.set (atM m k) (k, v)) (fun k' => if k' = k then some v else f k') := by
  have hat := alike_some hs ha hk
  obtain ⟨hl, e0⟩ := List.getElem?_eq_some_iff.1 hat
  refine ⟨?_, fun k' v' => ?_⟩
  · refine List.pairwise_iff_getElem.2 fun i j hi hj hij => ?_
    rw [List.length_set] at hi hj
    have hb := List.pairwise_iff_getElem.1 hs i j hi hj hij
    rw [List.getElem_set, List.getElem_set]
    split
    · rename_i e1
      subst e1
      split
      · omega
      · rw [e0] at hb; exact hb
    · split
      · rename_i e1
        subst e1
        rw [e0] at hb; exact hb
      · exact hb
  · show _ ↔ (if k' = k then some v else f k') = some v'
    constructor
    · intro h
      obtain ⟨i, hi⟩ := List.getElem?_of_mem h
      rw [List.getElem?_set] at hi
      split at hi
      · have h9 : (k, v) = (k', v') := by
          first
            | exact Option.some.inj hi
            | (split at hi; exact Option.some.inj hi; cases hi)
        injection h9 with a b
        rw [if_pos a.symm, b]
      · rename_i hne
        have hm := (ha k' v').1 (List.mem_of_getElem? hi)
        by_cases e : k' = k
        · subst e
          have h2 := at_of_mem hs (List.mem_of_getElem? hi)
          obtain ⟨hil, e1⟩ := List.getElem?_eq_some_iff.1 hi
          rcases Nat.lt_trichotomy (atM m k') i with h3 | h3 | h3
          · exact absurd (sorted_get hs h2 hi h3) (ltK_irrefl _)
          · exact absurd h3 hne
          · exact absurd (sorted_get hs hi h2 h3) (ltK_irrefl _)
        · rw [if_neg e]; exact hm
    · intro h
      by_cases e : k' = k
      · subst e
        rw [if_pos rfl] at h
        obtain rfl := Option.some.inj h
        exact List.mem_of_getElem? (i := atM m k') (by rw [List.getElem?_set_self hl])
      · rw [if_neg e] at h
        obtain ⟨i, hi⟩ := List.getElem?_of_mem ((ha k' v').2 h)
        refine List.mem_of_getElem? (i := i) ?_
        rw [List.getElem?_set_ne, hi]
        intro e2
        rw [← e2, hat] at hi
        injection hi with hi
        injection hi with hi _
        exact e hi.symm
/-- One less. -/
theorem del_okM {m : List Cl} {f : Int × Int → Option ByteArray} (hs : sortedM m) (ha : alike m f) {k : Int × Int} {u : ByteArray} (hk : f k = some u) :
    sortedM (m.take (atM m k) ++ m.drop (atM m k + 1)) ∧ alike (m.take (atM m k) ++ m.drop (atM m k + 1)) (fun k' => if k' = k then none else f k') := by
  have hat := alike_some hs ha hk
  have htd := take_drop_at hat
  have hs2 := hs
  rw [htd] at hs2
  unfold sortedM at hs2
  rw [List.pairwise_append, List.pairwise_cons] at hs2
  obtain ⟨p1, ⟨p2, p3⟩, p4⟩ := hs2
  refine ⟨?_, fun k' v' => ?_⟩
  · unfold sortedM
    rw [List.pairwise_append]
    exact ⟨p1, p3, fun a ha b hb => p4 a ha b (List.mem_cons_of_mem _ hb)⟩
  · show _ ↔ (if k' = k then none else f k') = some v'
    have hmem : (k', v') ∈ m ↔ (k', v') ∈ m.take (atM m k) ++ m.drop (atM m k + 1) ∨ (k', v') = (k, u) := by
      have h0 : (k', v') ∈ m ↔ (k', v') ∈ m.take (atM m k) ++ (k, u) :: m.drop (atM m k + 1) := by rw [← htd]
      rw [h0, List.mem_append, List.mem_append, List.mem_cons]
      constructor
      · rintro (h | h | h)
        · exact .inl (.inl h)
        · exact .inr h
        · exact .inl (.inr h)
      · rintro ((h | h) | h)
        · exact .inl h
        · exact .inr (.inr h)
        · exact .inr (.inl h)
    by_cases e : k' = k
    · subst e
      rw [if_pos rfl]
      constructor
      · intro h
        rcases List.mem_append.1 h with h | h
        · exact absurd (p4 _ h _ (List.mem_cons_self ..)) (ltK_irrefl _)
        · exact absurd (p2 _ h) (ltK_irrefl _)
      · intro h; cases h
    · rw [if_neg e, ← ha k' v', hmem]
      constructor
      · exact .inl
      · rintro (h | h)
        · exact h
        · injection h with h _; exact absurd h e
/-- The keys. -/
theorem keys_same {m : List Cl} {f : Int × Int → Option ByteArray} {ks : List (Int × Int)} (hs : sortedM m) (ha : alike m f) (h1 : ks.Pairwise ltK) (h2 : ∀ k, k ∈ ks ↔ (f k).isSome = true) : ks = m.map fun c => c.1 := by
  refine sorted_same h1 (List.pairwise_map.2 hs) fun k => ?_
  rw [h2, List.mem_map, Option.isSome_iff_exists]
  constructor
  · rintro ⟨v, hv⟩
    exact ⟨(k, v), (ha k v).2 hv, rfl⟩
  · rintro ⟨⟨k', v⟩, hm, rfl⟩
    exact ⟨v, (ha k' v).1 hm⟩
end Go.Proofs.Ytkfembhladjhdaa
