/- Insertion into an ordered list: plain functions. -/
namespace Go.Proofs.YtigkndbkaagboaaGreatDoor.Ins
set_option linter.unusedVariables false
variable {α : Type}
/-- One more in its place. -/
def insL (l : List α) (k : Nat) (x : α) : List α := l.take k ++ x :: l.drop k
theorem insL_perm (l : List α) (k : Nat) (x : α) : (insL l k x).Perm (l ++ [x]) := by
  unfold insL
  refine (List.perm_middle).trans ?_
  rw [List.take_append_drop]
  exact (List.perm_append_singleton x l).symm
theorem insL_len (l : List α) (k : Nat) (x : α) : (insL l k x).length = l.length + 1 := by
  rw [(insL_perm l k x).length_eq, List.length_append, List.length_singleton]
theorem insL_sorted {R : α → α → Prop} (hR : ∀ a b c, R a b → R b c → R a c) (hr : ∀ a, R a a) {l : List α} {k : Nat} {x : α} (hs : l.Pairwise R) (hk : k ≤ l.length) (h1 : ∀ a, 0 < k → l[k - 1]? = some a → R a x) (h2 : ∀ j a, k ≤ j → l[j]? = some a → R x a) : (insL l k x).Pairwise R := by
  have hle : ∀ i j (hi : i < l.length) (hj : j < l.length), i ≤ j → R l[i] l[j] := fun i j hi hj hij => by
    rcases Nat.lt_or_ge i j with h | h
    · exact List.pairwise_iff_getElem.1 hs i j hi hj h
    · obtain rfl : i = j := by omega
      exact hr _
  have ht : ∀ a ∈ l.take k, R a x := fun a ha => by
    obtain ⟨i, hi, rfl⟩ := List.mem_iff_getElem.1 ha
    have hik : i < k := by simp at hi; omega
    rw [List.getElem_take]
    exact hR _ _ _ (hle i (k - 1) (by omega) (by omega) (by omega)) (h1 _ (by omega) (List.getElem?_eq_getElem (by omega)))
  have hd : ∀ a ∈ l.drop k, R x a := fun a ha => by
    obtain ⟨i, hi, rfl⟩ := List.mem_iff_getElem.1 ha
    rw [List.getElem_drop]
    exact h2 (k + i) _ (by omega) (List.getElem?_eq_getElem (by simp at hi; omega))
  unfold insL
  refine List.pairwise_append.2 ⟨hs.take, List.pairwise_cons.2 ⟨hd, hs.drop⟩, fun a ha c hc => ?_⟩
  rcases List.mem_cons.1 hc with rfl | hc
  · exact ht a ha
  · exact hR _ _ _ (ht a ha) (hd c hc)
/-- A list with one place more, its things from i on moved by one. -/
def shiftL (z : α) (l : List α) (i : Nat) : List α := (l ++ [z]).take (i + 1) ++ l.drop i
theorem shiftL_top (z : α) (l : List α) : shiftL z l l.length = l ++ [z] := by unfold shiftL; rw [List.take_of_length_le (by simp), List.drop_of_length_le (Nat.le_refl _), List.append_nil]
theorem shiftL_len {z : α} {l : List α} {i : Nat} (h : i ≤ l.length) : (shiftL z l i).length = l.length + 1 := by simp [shiftL]; omega
theorem shiftL_get {z : α} {l : List α} {i : Nat} (h : i ≤ l.length) (j : Nat) (hj : j < i) : (shiftL z l i)[j]? = l[j]? := by
  unfold shiftL
  rw [List.getElem?_append_left (by simp; omega), List.getElem?_take, if_pos (by omega), List.getElem?_append_left (by omega)]
theorem shiftL_set {z : α} {l : List α} {i : Nat} (h1 : 1 ≤ i) (h : i ≤ l.length) (x : α) (hx : l[i - 1]? = some x) : (shiftL z l i).set i x = shiftL z l (i - 1) := by
  apply List.ext_getElem?
  intro j
  have hl : i - 1 < l.length := by omega
  rw [List.getElem?_eq_getElem hl] at hx
  have hx' := Option.some.inj hx
  subst hx'
  unfold shiftL
  simp only [List.getElem?_set, List.getElem?_append, List.getElem?_take, List.getElem?_drop, List.length_append, List.length_take, List.length_singleton, List.length_drop]
  by_cases hj : i = j
  · subst hj
    rw [if_pos rfl, if_pos (by omega), if_neg (by omega), show i - 1 + (i - min (i - 1 + 1) (l.length + 1)) = i - 1 by omega, List.getElem?_eq_getElem hl]
  · rw [if_neg hj]
    rcases Nat.lt_or_ge j i with h2 | h2
    · rw [if_pos (by omega), if_pos (by omega), if_pos (by omega), if_pos (by omega), if_pos (by omega)]
    · rw [if_neg (by omega), if_neg (by omega)]
      rw [show i + (j - min (i + 1) (l.length + 1)) = i - 1 + (j - min (i - 1 + 1) (l.length + 1)) by omega]
theorem shiftL_ins {z : α} {l : List α} {i : Nat} (h : i ≤ l.length) (x : α) : (shiftL z l i).set i x = insL l i x := by
  apply List.ext_getElem?
  intro j
  unfold shiftL insL
  simp only [List.getElem?_set, List.getElem?_append, List.getElem?_take, List.getElem?_drop, List.length_append, List.length_take, List.length_singleton, List.length_drop, List.getElem?_cons]
  by_cases hj : i = j
  · subst hj
    rw [if_pos rfl, if_pos (by omega), if_neg (by omega), if_pos (by omega)]
  · rw [if_neg hj]
    rcases Nat.lt_or_ge j i with h2 | h2
    · rw [if_pos (by omega), if_pos (by omega), if_pos (by omega), if_pos (by omega), if_pos (by omega)]
    · rw [if_neg (by omega), if_neg (by omega), if_neg (by omega)]
      rw [show i + (j - min (i + 1) (l.length + 1)) = i + (j - min i l.length - 1) by omega]
end Go.Proofs.YtigkndbkaagboaaGreatDoor.Ins
