/- Lines of a text: plain. -/
import Derived.Test.YtigkndbkaagboaaGreatDoorScrL
namespace Go.Proofs.YtigkndbkaagboaaGreatDoor
set_option linter.unusedVariables false
open Go.Lib
def trimT (s : Tx) : Tx := trimSuffix s [10]
def linesT (s : Tx) : List Tx := if s = [] then [] else cutT 10 (trimT s)
/-- The lines and the answer's number. -/
def linP (s : Tx) : List Tx × Int := if 262144 < s.length ∨ 10000 < (linesT s).length then ([], 2) else (linesT s, 0)
theorem suffix_iff (s : Tx) : hasSuffix s [10] = true ↔ ∃ r, s = r ++ [10] := by
  unfold hasSuffix
  rw [List.isSuffixOf_iff_suffix]
  exact ⟨fun ⟨r, h⟩ => ⟨r, h.symm⟩, fun ⟨r, h⟩ => ⟨r, h.symm⟩⟩
theorem trim_end (s : Tx) : trimT (s ++ [10]) = s := by
  unfold trimT trimSuffix
  rw [if_pos ((suffix_iff _).2 ⟨s, rfl⟩)]
  simp
theorem trim_not {s : Tx} (h : ¬ ∃ r, s = r ++ [10]) : trimT s = s := by
  unfold trimT trimSuffix
  rw [if_neg fun e => h ((suffix_iff s).1 e)]
theorem trim_len (s : Tx) : (trimT s).length ≤ s.length := by
  unfold trimT trimSuffix
  split
  · rw [List.length_take]; exact Nat.min_le_right _ _
  · exact Nat.le_refl _
theorem cut_end (x : UInt8) (r : Tx) : cutT x (r ++ [x]) = cutT x r ++ [[]] := by
  have := wordsT_more x r []
  rw [this]
  rfl
theorem cut_last (x : UInt8) : ∀ (s : Tx) (l : List Tx), cutT x s = l ++ [[]] → s = [] ∨ ∃ r, s = r ++ [x]
  | [], l, h => .inl rfl
  | c :: s, l, h => by
    right
    by_cases hc : c = x
    · subst hc
      rw [wordsT_blank] at h
      rcases l with _ | ⟨y, l⟩
      · have := congrArg List.tail h
        exact absurd this (wordsT_ne _ s)
      · rw [List.cons_append] at h
        injection h with h1 h2
        rcases cut_last c s l h2 with rfl | ⟨r, rfl⟩
        · exact ⟨[], rfl⟩
        · exact ⟨c :: r, rfl⟩
    · rw [cutT, if_neg hc] at h
      cases hs : cutT x s with
      | nil => exact absurd hs (wordsT_ne x s)
      | cons y t =>
        rw [hs] at h
        rcases l with _ | ⟨z, l⟩
        · simp at h
        · simp only [List.cons_append] at h
          injection h with h1 h2
          rw [h2, ← List.cons_append] at hs
          rcases cut_last x s (y :: l) hs with rfl | ⟨r, rfl⟩
          · have := congrArg List.tail hs
            simp [cutT] at this
          · exact ⟨c :: r, rfl⟩
theorem lines_cut {s t : Tx} {l : List Tx} (h : cutT 10 s = l ++ [t]) : linesT s = if t = [] then l else l ++ [t] := by
  by_cases ht : t = []
  · subst ht
    rw [if_pos rfl]
    unfold linesT
    rcases cut_last 10 s l h with rfl | ⟨r, rfl⟩
    · rw [if_pos rfl]
      have h' : ([[]] : List Tx) = l ++ [[]] := h
      rcases l with _ | ⟨y, l⟩
      · rfl
      · have := congrArg List.length h'
        simp at this
    · rw [if_neg (by simp), trim_end]
      rw [cut_end] at h
      exact List.append_cancel_right h
  · rw [if_neg ht]
    unfold linesT
    have hs : s ≠ [] := fun e => by
      rw [e] at h
      have h' : ([[]] : List Tx) = l ++ [t] := h
      rcases l with _ | ⟨y, l⟩
      · simp at h'
        exact ht h'
      · have := congrArg List.length h'
        simp at this
    rw [if_neg hs, trim_not, h]
    rintro ⟨r, rfl⟩
    rw [cut_end] at h
    have := (List.append_inj' h rfl).2
    simp at this
    exact ht this
theorem cut_join : ∀ l : List Tx, (∀ t ∈ l, ∀ c ∈ t, c ≠ 10) → cutT 10 (l.flatMap (fun t => t ++ [10])) = l ++ [[]]
  | [], _ => rfl
  | t :: l, h => by
    rw [List.flatMap_cons, List.append_assoc]
    show cutT 10 (t ++ 10 :: l.flatMap (fun t => t ++ [10])) = _
    rw [wordsT_app 10 t _ (h t (List.mem_cons_self ..)), cut_join l fun t' ht => h t' (List.mem_cons_of_mem _ ht)]
    rfl
theorem lines_join {l : List Tx} (h : ∀ t ∈ l, ∀ c ∈ t, c ≠ 10) : linesT (l.flatMap (fun t => t ++ [10])) = l := by
  rw [lines_cut (cut_join l h), if_pos rfl]
theorem lines_len (s : Tx) : (linesT s).length ≤ s.length + 1 := by
  unfold linesT
  split
  · simp
  · rw [wordsT_len]
    have := List.count_le_length (a := 10) (l := trimT s)
    have := trim_len s
    omega
end Go.Proofs.YtigkndbkaagboaaGreatDoor
