/- Delays that double: the plain law. -/
import Derived.Test.YtjpibhgdeljihaaNumP
namespace Go.Proofs.Ytjpibhgdeljihaa
/-- So many doublings, as long as it is below the limit. -/
def dbl (base cap : Int) : Nat → Int
  | 0 => base
  | n + 1 => if base < cap then dbl (2 * base) cap n else base
/-- How long is waited for. -/
def delayZ (base cap k : Int) : Int := min (dbl (clampZ base 1 1099511627776) (clampZ cap 1 1099511627776) k.toNat) (clampZ cap 1 1099511627776)
theorem dbl_stop {b c : Int} (h : ¬ b < c) (n : Nat) : dbl b c n = b := by cases n <;> simp [dbl, h]
theorem dbl_go {b c : Int} (h : b < c) (n : Nat) : dbl b c (n + 1) = dbl (2 * b) c n := by simp [dbl, h]
theorem dbl_bd (c : Int) (n : Nat) : ∀ b : Int, 1 ≤ b → b ≤ 2 * c → 1 ≤ dbl b c n ∧ dbl b c n ≤ 2 * c := by
  induction n with
  | zero => intro b h1 h2; exact ⟨h1, h2⟩
  | succ n ih =>
    intro b h1 h2
    by_cases h : b < c
    · rw [dbl_go h]; exact ih _ (by omega) (by omega)
    · rw [dbl_stop h]; exact ⟨h1, h2⟩
/-- One doubling more. -/
theorem dbl_next (c : Int) (n : Nat) : ∀ b : Int, dbl b c (n + 1) = if dbl b c n < c then 2 * dbl b c n else dbl b c n := by
  induction n with
  | zero => intro b; rfl
  | succ n ih =>
    intro b
    by_cases h : b < c
    · rw [dbl_go h, dbl_go h, ih]
    · rw [dbl_stop h, dbl_stop h, if_neg h]
theorem dbl_big (c : Int) (n : Nat) : ∀ b : Int, 1 ≤ b → (c ≤ dbl b c n ∨ (2 : Int) ^ n ≤ dbl b c n) := by
  intro b h1
  induction n with
  | zero => right; simpa [dbl] using h1
  | succ n ih =>
    rw [dbl_next]
    split
    · rename_i h
      rcases ih with ih | ih
      · omega
      · right; rw [Int.pow_succ]; omega
    · left; omega
theorem dbl_same {c : Int} {n : Nat} {b : Int} (h : c ≤ dbl b c n) : ∀ m, n ≤ m → dbl b c m = dbl b c n := by
  intro m hm
  induction m with
  | zero => obtain rfl : n = 0 := by omega
            rfl
  | succ m ih =>
    by_cases e : n = m + 1
    · rw [e]
    · have := ih (by omega)
      rw [dbl_next, this, if_neg (by omega)]
theorem dbl_cap {b c : Int} (h1 : 1 ≤ b) (hc : c ≤ 1099511627776) : c ≤ dbl b c 100 := by
  rcases dbl_big c 100 b h1 with h | h
  · exact h
  · have e : (2 : Int) ^ 100 = 1267650600228229401496703205376 := by decide
    omega
theorem dbl_cut {b c : Int} (h1 : 1 ≤ b) (hc : c ≤ 1099511627776) (n : Nat) : dbl b c (min n 100) = dbl b c n := by
  by_cases h : n ≤ 100
  · rw [Nat.min_eq_left h]
  · rw [Nat.min_eq_right (by omega), dbl_same (dbl_cap h1 hc) n (by omega)]
theorem lim_bd (v : Int) : 1 ≤ clampZ v 1 1099511627776 ∧ clampZ v 1 1099511627776 ≤ 1099511627776 := clampZ_bd _ _ _ (by omega)
theorem delayZ_bd (b c k : Int) : 1 ≤ delayZ b c k ∧ delayZ b c k ≤ 1099511627776 ∧ delayZ b c k ≤ clampZ c 1 1099511627776 := by
  have h1 := lim_bd b
  have h2 := lim_bd c
  unfold delayZ
  by_cases h : clampZ b 1 1099511627776 ≤ 2 * clampZ c 1 1099511627776
  · have := dbl_bd (clampZ c 1 1099511627776) k.toNat _ h1.1 h; omega
  · have := dbl_stop (show ¬ clampZ b 1 1099511627776 < clampZ c 1 1099511627776 by omega) k.toNat; omega
theorem delayZ_cut (b c k : Int) : delayZ b c (min k 100) = delayZ b c k := by
  unfold delayZ
  rw [show (min k 100).toNat = min k.toNat 100 by omega, dbl_cut (lim_bd b).1 (lim_bd c).2]
theorem delayZ_neg (b c k : Int) (h : k ≤ 0) : delayZ b c k = delayZ b c 0 := by
  unfold delayZ; rw [show k.toNat = 0 by omega]; rfl
/-- The next delay is twice as long, or the limit. -/
theorem delayZ_next (b c k : Int) (h : 0 ≤ k) : delayZ b c k ≤ delayZ b c (k + 1) ∧ delayZ b c (k + 1) ≤ 2 * delayZ b c k ∧ (delayZ b c (k + 1) = 2 * delayZ b c k ∨ delayZ b c (k + 1) = clampZ c 1 1099511627776) := by
  have h1 := lim_bd b
  have h2 := lim_bd c
  unfold delayZ
  rw [show (k + 1).toNat = k.toNat + 1 by omega, dbl_next]
  have h3 : 1 ≤ dbl (clampZ b 1 1099511627776) (clampZ c 1 1099511627776) k.toNat := by
    by_cases h : clampZ b 1 1099511627776 ≤ 2 * clampZ c 1 1099511627776
    · exact (dbl_bd (clampZ c 1 1099511627776) k.toNat _ h1.1 h).1
    · rw [dbl_stop (by omega)]; omega
  split <;> omega
end Go.Proofs.Ytjpibhgdeljihaa
