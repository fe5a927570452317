/- Insertion into a rising list, what is kept of many sizes, and the reference's cuts: plain functions. -/
import Derived.Test.YtodinfadheabpaaCutP
import Derived.Test.YtodinfadheabpaaCutW
namespace Go.Proofs.Ytodinfadheabpaa
set_option linter.unusedVariables false
theorem sortZ_perm (zs : List Int) : (sortZ zs).Perm zs := List.mergeSort_perm _ _
theorem sortZ_sorted (zs : List Int) : (sortZ zs).Pairwise (· ≤ ·) := by
  have h := List.pairwise_mergeSort (le := fun x y : Int => decide (x ≤ y)) (by intro a b c h1 h2; simp at *; omega) (by intro a b; simp; omega) zs
  exact h.imp (by intro a b h; simpa using h)
theorem sortZ_unique {l zs : List Int} (hs : l.Pairwise (· ≤ ·)) (hp : l.Perm zs) : l = sortZ zs :=
  List.Perm.eq_of_pairwise (le := fun a b : Int => a ≤ b) (by intro a b _ _ h1 h2; omega) hs (sortZ_sorted zs) (hp.trans (sortZ_perm zs).symm)
/-- One more in its place. -/
def insL (l : List Int) (at_ : Nat) (x : Int) : List Int := l.take at_ ++ x :: l.drop at_
theorem insL_len (l : List Int) (k : Nat) (x : Int) : (insL l k x).length = l.length + 1 := by simp [insL]; omega
theorem insL_perm (l : List Int) (k : Nat) (x : Int) : (insL l k x).Perm (l ++ [x]) := by
  unfold insL
  refine (List.perm_middle).trans ?_
  rw [List.take_append_drop]
  exact (List.perm_append_singleton x l).symm
theorem insL_sorted {l : List Int} {k : Nat} {x : Int} (hs : l.Pairwise (· ≤ ·)) (hk : k ≤ l.length) (h1 : ∀ h : 0 < k, l[k - 1] ≤ x) (h2 : ∀ j, k ≤ j → (h : j < l.length) → x < l[j]) : (insL l k x).Pairwise (· ≤ ·) := by
  have hle : ∀ i j (hi : i < l.length) (hj : j < l.length), i ≤ j → l[i] ≤ l[j] := fun i j hi hj hij => by
    rcases Nat.lt_or_ge i j with h | h
    · exact List.pairwise_iff_getElem.1 hs i j hi hj h
    · obtain rfl : i = j := by omega
      exact Int.le_refl _
  have ht : ∀ a ∈ l.take k, a ≤ x := fun a ha => by
    obtain ⟨i, hi, rfl⟩ := List.mem_iff_getElem.1 ha
    have hik : i < k := by simp at hi; omega
    rw [List.getElem_take]
    exact Int.le_trans (hle i (k - 1) (by omega) (by omega) (by omega)) (h1 (by omega))
  have hd : ∀ a ∈ l.drop k, x ≤ a := fun a ha => by
    obtain ⟨i, hi, rfl⟩ := List.mem_iff_getElem.1 ha
    rw [List.getElem_drop]
    exact Int.le_of_lt (h2 (k + i) (by omega) (by simp at hi; omega))
  unfold insL
  refine List.pairwise_append.2 ⟨hs.take, List.pairwise_cons.2 ⟨hd, hs.drop⟩, fun a ha c hc => ?_⟩
  rcases List.mem_cons.1 hc with rfl | hc
  · exact ht a ha
  · exact Int.le_trans (ht a ha) (hd c hc)
/-- A rising list with one place more, its things from i on moved by one. -/
def shiftL (l : List Int) (i : Nat) : List Int := (l ++ [0]).take (i + 1) ++ l.drop i
theorem shiftL_top (l : List Int) : shiftL l l.length = l ++ [0] := by unfold shiftL; rw [List.take_of_length_le (by simp), List.drop_of_length_le (Nat.le_refl _), List.append_nil]
theorem shiftL_len {l : List Int} {i : Nat} (h : i ≤ l.length) : (shiftL l i).length = l.length + 1 := by simp [shiftL]; omega
theorem shiftL_get {l : List Int} {i : Nat} (h : i ≤ l.length) (j : Nat) (hj : j < i) : (shiftL l i)[j]? = l[j]? := by
  unfold shiftL
  rw [List.getElem?_append_left (by simp; omega), List.getElem?_take, if_pos (by omega), List.getElem?_append_left (by omega)]
theorem shiftL_set {l : List Int} {i : Nat} (h1 : 1 ≤ i) (h : i ≤ l.length) (x : Int) (hx : l[i - 1]? = some x) : (shiftL l i).set i x = shiftL l (i - 1) := by
  apply List.ext_getElem?
  intro j
  have hl : i - 1 < l.length := by omega
  rw [List.getElem?_eq_getElem hl] at hx
  have hx' := Option.some.inj hx
  subst hx'
  unfold shiftL
  simp only [List.getElem?_set, List.getElem?_append, List.getElem?_take, List.getElem?_drop, List.length_append, List.length_take, List.length_singleton, List.length_drop]
  by_cases hj : i = j
  · subst hj
    rw [if_pos rfl, if_pos (by omega), if_neg (by omega), show i - 1 + (i - min (i - 1 + 1) (l.length + 1)) = i - 1 by omega, List.getElem?_eq_getElem hl]
  · rw [if_neg hj]
    rcases Nat.lt_or_ge j i with h2 | h2
    · rw [if_pos (by omega), if_pos (by omega), if_pos (by omega), if_pos (by omega), if_pos (by omega)]
    · rw [if_neg (by omega), if_neg (by omega)]
      rw [show i + (j - min (i + 1) (l.length + 1)) = i - 1 + (j - min (i - 1 + 1) (l.length + 1)) by omega]
theorem shiftL_ins {l : List Int} {i : Nat} (h : i ≤ l.length) (x : Int) : (shiftL l i).set i x = insL l i x := by
  apply List.ext_getElem?
  intro j
  unfold shiftL insL
  simp only [List.getElem?_set, List.getElem?_append, List.getElem?_take, List.getElem?_drop, List.length_append, List.length_take, List.length_singleton, List.length_drop, List.getElem?_cons]
  by_cases hj : i = j
  · subst hj
    rw [if_pos rfl, if_pos (by omega), if_neg (by omega), if_pos (by omega)]
  · rw [if_neg hj]
    rcases Nat.lt_or_ge j i with h2 | h2
    · rw [if_pos (by omega), if_pos (by omega), if_pos (by omega), if_pos (by omega), if_pos (by omega)]
    · rw [if_neg (by omega), if_neg (by omega), if_neg (by omega)]
      rw [show i + (j - min (i + 1) (l.length + 1)) = i + (j - min i l.length - 1) by omega]
/-- The first at which the sum reaches t; 0 if none does. -/
def refCut (win t : Int) : List Int → Int → Int
  | [], _ => 0
  | n :: r, s => if t ≤ s + min n win then n else refCut win t r (s + min n win)
theorem refCut_eq (win t : Int) : ∀ (l : List Int) (s c : Int), l ≠ [] → t ≤ s + allZ win l → refCut win t l s = cutAt win t l s c
  | [], s, c, h, _ => absurd rfl h
  | n :: r, s, c, _, ht => by
    unfold refCut cutAt
    by_cases hc : t ≤ s + min n win
    · rw [if_pos hc, if_pos hc]
    · rw [if_neg hc, if_neg hc]
      by_cases hr : r = []
      · subst hr
        simp [allZ] at ht
        omega
      · exact refCut_eq win t r _ _ hr (by simp only [allZ] at ht; omega)
theorem cutsTo_nil (lev win : Int) (j : Nat) : cutsTo lev win [] j = List.replicate j 0 := by
  induction j with
  | zero => rfl
  | succ j ih => rw [cutsTo_succ, ih, List.replicate_succ']; rfl
theorem allZ_perm {win : Int} {l l' : List Int} (h : l.Perm l') : allZ win l = allZ win l' := by
  induction h with
  | nil => rfl
  | cons x _ ih => simp only [allZ, ih]
  | swap x y l => simp only [allZ]; omega
  | trans _ _ h1 h2 => exact h1.trans h2
theorem cuts_put {lev win : Int} {l : List Int} {N j : Nat} (h : j < N) : (cutsTo lev win l j ++ List.replicate (N - j) 0).set j (cutAt win ((((j : Int) + 1) * allZ win l) / lev) l 0 0) = cutsTo lev win l (j + 1) ++ List.replicate (N - (j + 1)) 0 := by
  rw [List.set_append_right _ _ (by rw [cutsTo_len]; exact Nat.le_refl _), cutsTo_len, Nat.sub_self, cutsTo_succ, show N - j = (N - (j + 1)) + 1 by omega, List.replicate_succ, List.set_cons_zero, List.append_assoc]
  rfl
theorem reach_le {a lev : Int} {i : Nat} (ha : 0 ≤ a) (hi : (i : Int) + 1 < lev) : (((i : Int) + 1) * a) / lev ≤ a := by
  refine Int.ediv_le_of_le_mul (by omega) ?_
  rw [Int.mul_comm]
  exact Int.mul_le_mul_of_nonneg_left (by omega) ha
/-- What is kept of many sizes. -/
def keptZ (most : Int) (xs : List Int) : List Int := (xs.map fun x => clampZ x 0 1073741824).drop (xs.length - most.toNat)
theorem keptZ_len (most : Int) (xs : List Int) : (keptZ most xs).length = min xs.length most.toNat := by simp [keptZ]; omega
theorem keptZ_bd {most : Int} {xs : List Int} : ∀ z ∈ keptZ most xs, 0 ≤ z ∧ z ≤ 1073741824 := fun z hz => by
  have := List.mem_of_mem_drop hz
  obtain ⟨x, _, rfl⟩ := List.mem_map.1 this
  exact clampZ_bd x _ _ (by omega)
theorem keptZ_nil (most : Int) : keptZ most [] = [] := by simp [keptZ]
theorem keptZ_snoc {most : Int} (hm : 1 ≤ most) (xs : List Int) (x : Int) : moreZ most (keptZ most xs) x = keptZ most (xs ++ [x]) := by
  unfold moreZ
  have hl := keptZ_len most xs
  rw [hl]
  unfold keptZ
  rw [List.map_append, List.length_append, List.length_singleton, List.map_singleton]
  by_cases h : xs.length < most.toNat
  · rw [show xs.length - most.toNat = 0 by omega, show xs.length + 1 - most.toNat = 0 by omega, show min xs.length most.toNat + 1 - most.toNat = 0 by omega]
    rfl
  · rw [show min xs.length most.toNat + 1 - most.toNat = 1 by omega, show xs.length + 1 - most.toNat = (xs.length - most.toNat) + 1 by omega]
    rw [← List.drop_drop, List.drop_append_of_le_length (l₁ := xs.map fun x => clampZ x 0 1073741824) (by simp), List.drop_append_of_le_length (by simp; omega)]
theorem keptZ_all {most : Int} {xs : List Int} (h : xs.length ≤ most.toNat) : keptZ most xs = xs.map fun x => clampZ x 0 1073741824 := by
  unfold keptZ; rw [show xs.length - most.toNat = 0 by omega]; rfl
theorem keptZ_last {most : Int} {old xs : List Int} (h : xs.length = most.toNat) : keptZ most (old ++ xs) = xs.map fun x => clampZ x 0 1073741824 := by
  unfold keptZ
  rw [List.length_append, h, Nat.add_sub_cancel, List.map_append]
  rw [List.drop_append_of_le_length (by simp)]
  simp
/-- A size's line. -/
def prioZ (cuts : List Int) (size : Int) : Int := 7 - (cuts.filter fun c => decide (c < size)).length
theorem cutAt_mono {win t t' : Int} (ht : t ≤ t') : ∀ (l : List Int) (s c : Int), (c :: l).Pairwise (· ≤ ·) → c ≤ cutAt win t l s c ∧ cutAt win t l s c ≤ cutAt win t' l s c
  | [], s, c, _ => by unfold cutAt; omega
  | n :: r, s, c, h => by
    have hcn : c ≤ n := (List.pairwise_cons.1 h).1 n (List.mem_cons_self ..)
    have h' : (n :: r).Pairwise (· ≤ ·) := (List.pairwise_cons.1 h).2
    have ih := cutAt_mono (win := win) ht r (s + min n win) n h'
    unfold cutAt
    by_cases h1 : t ≤ s + min n win
    · rw [if_pos h1]
      by_cases h2 : t' ≤ s + min n win
      · rw [if_pos h2]; omega
      · rw [if_neg h2]
        have := (cutAt_mono (win := win) (Int.le_refl t') r (s + min n win) n h').1
        omega
    · rw [if_neg h1, if_neg (by omega)]
      omega
end Go.Proofs.Ytodinfadheabpaa
