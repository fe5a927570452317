/- Digits of a number. -/
import Derived.WalkKit
namespace Go.Proofs.YtcandpiafgicbaaGreatDoor
set_option linter.unusedVariables false
/-- The digits of a number above 0, as bytes; f: at least how many there are. -/
def digs : Nat → Nat → List Int
  | 0, _ => []
  | f + 1, u => if u = 0 then [] else digs f (u / 10) ++ [48 + ((u % 10 : Nat) : Int)]
/-- The digits of a number. -/
def dec (n : Nat) : List Int := if n = 0 then [48] else digs 20 n
theorem digs_zero (f : Nat) : digs f 0 = [] := by cases f <;> rfl
theorem digs_succ {f u : Nat} (h : u ≠ 0) : digs (f + 1) u = digs f (u / 10) ++ [48 + ((u % 10 : Nat) : Int)] := by simp [digs, h]
theorem digs_len : ∀ (f u : Nat), (digs f u).length ≤ f
  | 0, _ => Nat.le_refl _
  | f + 1, u => by
    unfold digs
    split
    · simp
    · have := digs_len f (u / 10)
      simp; omega
theorem digs_bd : ∀ (f u : Nat), ∀ x ∈ digs f u, 48 ≤ x ∧ x ≤ 57
  | 0, _ => by intro x hx; simp [digs] at hx
  | f + 1, u => by
    intro x hx
    unfold digs at hx
    split at hx
    · simp at hx
    · rw [List.mem_append] at hx
      rcases hx with hx | hx
      · exact digs_bd f _ x hx
      · simp at hx; omega
theorem dec_len (n : Nat) : (dec n).length ≤ 20 := by
  unfold dec; split
  · simp
  · exact digs_len _ _
theorem dec_bd (n : Nat) : ∀ x ∈ dec n, 48 ≤ x ∧ x ≤ 57 := by
  intro x hx
  unfold dec at hx
  split at hx
  · simp at hx; omega
  · exact digs_bd _ _ x hx
end Go.Proofs.YtcandpiafgicbaaGreatDoor
