/- Where the cuts stand: plain functions. -/
import Derived.WalkKit
namespace Go.Proofs.Ytodinfadheabpaa
set_option linter.unusedVariables false
/-- The sum of what counts. -/
def allZ (win : Int) : List Int → Int
  | [] => 0
  | n :: r => min n win + allZ win r
/-- The first at which the sum reaches t; s: the sum so far, c: what was met last. -/
def cutAt (win t : Int) : List Int → Int → Int → Int
  | [], _, c => c
  | n :: r, s, c => if t ≤ s + min n win then n else cutAt win t r (s + min n win) n
/-- The first cuts of a rising list. -/
def cutsTo (lev win : Int) (l : List Int) (j : Nat) : List Int := (List.range j).map fun i : Nat => cutAt win ((((i : Int) + 1) * allZ win l) / lev) l 0 0
theorem cutsTo_len (lev win : Int) (l : List Int) (j : Nat) : (cutsTo lev win l j).length = j := by simp [cutsTo]
theorem cutsTo_succ (lev win : Int) (l : List Int) (j : Nat) : cutsTo lev win l (j + 1) = cutsTo lev win l j ++ [cutAt win ((((j : Int) + 1) * allZ win l) / lev) l 0 0] := by
  simp [cutsTo, List.range_succ]
/-- The cuts of a rising list. -/
def cutsZ (lev win : Int) (l : List Int) : List Int := cutsTo lev win l (lev.toNat - 1)
theorem cutsZ_len (lev win : Int) (l : List Int) : (cutsZ lev win l).length = lev.toNat - 1 := cutsTo_len _ _ _ _
theorem cutAt_yes {win t s c : Int} {l : List Int} {k : Nat} (h : k < l.length) (ht : t ≤ s + min l[k] win) : cutAt win t (l.drop k) s c = l[k] := by
  rw [List.drop_eq_getElem_cons h]; unfold cutAt; rw [if_pos ht]
theorem cutAt_no {win t s c : Int} {l : List Int} {k : Nat} (h : k < l.length) (ht : ¬ t ≤ s + min l[k] win) : cutAt win t (l.drop k) s c = cutAt win t (l.drop (k + 1)) (s + min l[k] win) l[k] := by
  rw [List.drop_eq_getElem_cons h]; conv => lhs; unfold cutAt
  rw [if_neg ht]
theorem cutAt_end {win t s c : Int} {l : List Int} {k : Nat} (h : l.length ≤ k) : cutAt win t (l.drop k) s c = c := by
  rw [List.drop_of_length_le h]; rfl
theorem allZ_append (win : Int) : ∀ a b : List Int, allZ win (a ++ b) = allZ win a + allZ win b
  | [], b => by simp [allZ]
  | n :: a, b => by
    simp only [List.cons_append, allZ, allZ_append win a b]
    omega
theorem allZ_take {win : Int} {l : List Int} {k : Nat} (h : k < l.length) : allZ win (l.take (k + 1)) = allZ win (l.take k) + min l[k] win := by
  rw [List.take_succ_eq_append_getElem h, allZ_append]
  simp [allZ]
theorem allZ_bd {win : Int} (w0 : 0 ≤ win) : ∀ l : List Int, (∀ z ∈ l, 0 ≤ z ∧ z ≤ 1073741824) → 0 ≤ allZ win l ∧ allZ win l ≤ l.length * 1073741824
  | [], _ => by simp [allZ]
  | n :: r, h => by
    have h1 := h n (List.mem_cons_self ..)
    have h2 := allZ_bd w0 r (fun z hz => h z (List.mem_cons_of_mem _ hz))
    simp only [allZ, List.length_cons]
    omega
/-- What is met last is one of the list, or what was met before. -/
theorem cutAt_mem (win t : Int) : ∀ (l : List Int) (s c : Int), cutAt win t l s c ∈ l ∨ (l = [] ∧ cutAt win t l s c = c)
  | [], s, c => .inr ⟨rfl, rfl⟩
  | n :: r, s, c => by
    unfold cutAt
    split
    · exact .inl (List.mem_cons_self ..)
    · rcases cutAt_mem win t r (s + min n win) n with h | ⟨h1, h2⟩
      · exact .inl (List.mem_cons_of_mem _ h)
      · left
        rw [h2]
        exact List.mem_cons_self ..
end Go.Proofs.Ytodinfadheabpaa
