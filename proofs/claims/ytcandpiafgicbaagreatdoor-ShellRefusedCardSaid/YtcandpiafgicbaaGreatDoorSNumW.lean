/- The contract of the reference's Num. -/
import Derived.Test.YtcandpiafgicbaaGreatDoorScrP
import Derived.Test.YtcandpiafgicbaaGreatDoorDecW
namespace Go.Proofs.YtcandpiafgicbaaGreatDoor
open Go.RowKit Go.Lib
set_option linter.unusedVariables false
set_option maxHeartbeats 4000000
set_option maxRecDepth 100000
theorem data_len (s : ByteArray) : s.data.toList.length = s.size := by rw [Array.length_toList]; rfl
theorem str_at {s : ByteArray} {q : Nat} (h : q < s.size) : ∃ c : UInt8, s.data.toList.drop q = c :: s.data.toList.drop (q + 1) ∧ ∀ h', s[q]'h' = c := by
  have hl : q < s.data.toList.length := by rw [data_len]; exact h
  exact ⟨s.data.toList[q], List.drop_eq_getElem_cons hl, fun h' => by rw [Array.getElem_toList]; rfl⟩
theorem str_end {s : ByteArray} {q : Nat} (h : s.size ≤ q) : s.data.toList.drop q = [] := List.drop_eq_nil_of_le (by rw [data_len]; exact h)
theorem str_empty {s : ByteArray} (h : s.data.toList = []) : s.toList.isEmpty = true ∧ s.toList = [] := by
  rw [ByteArray.toList_eq, h]
  exact ⟨rfl, rfl⟩
theorem str_some {s : ByteArray} (h : s.data.toList ≠ []) : s.toList.isEmpty = false ∧ ¬ s.toList = [] := by
  rw [ByteArray.toList_eq]
  cases hs : s.data.toList with
  | nil => exact absurd hs h
  | cons c r => exact ⟨rfl, fun e => by cases e⟩
theorem str_same {a b : ByteArray} (h : a.data.toList = b.data.toList) : (a.toList == b.toList) = true := by
  rw [ByteArray.toList_eq, ByteArray.toList_eq, h]
  exact beq_self_eq_true _
theorem str_other {a b : ByteArray} (h : a.data.toList ≠ b.data.toList) : (a.toList == b.toList) = false := by
  rw [ByteArray.toList_eq, ByteArray.toList_eq]
  exact beq_eq_false_iff_ne.2 h
theorem numLoop_bd : ∀ (high : Int) (l : Tx) (n v : Int), 9 ≤ high → 0 ≤ n → n ≤ high → numLoop high n l = some v → 0 ≤ v ∧ v ≤ high
  | high, [], n, v, h9, h0, h1, h => by
    simp only [numLoop] at h
    injection h with h
    omega
  | high, c :: r, n, v, h9, h0, h1, h => by
    unfold numLoop numStep at h
    simp only [] at h
    split at h
    · cases h
    · rename_i m hm
      split at hm
      · cases hm
      · rename_i hc
        injection hm with hm
        refine numLoop_bd high r m v h9 ?_ ?_ h
        · omega
        · have : n ≤ (high - ((c.toNat : Int) - 48)).tdiv 10 := by omega
          rw [Int.tdiv_eq_ediv_of_nonneg (by omega)] at this
          omega
theorem numLoop_step {high v : Int} {c : UInt8} {r : Tx} {B : Option Int} (h : numLoop high v (c :: r) = B) :
    (if (c.toNat : Int) - 48 < 0 ∨ 9 < (c.toNat : Int) - 48 ∨ v > (high - ((c.toNat : Int) - 48)).tdiv 10 then none else numLoop high (10 * v + ((c.toNat : Int) - 48)) r) = B := by
  have e : numLoop high v (c :: r) = match numStep high v c with
    | none => none
    | some m => numLoop high m r := rfl
  rw [← h, e]
  unfold numStep
  simp only []
  split <;> rfl
theorem digs_text : ∀ (f u : Nat), 0 < u → u < 10 ^ f → (digs f u).map (fun n => UInt8.ofNat n.toNat) = decDigits u
  | 0, u, h0, h1 => by simp at h1; omega
  | f + 1, u, h0, h1 => by
    have hm : UInt8.ofNat (48 + ((u % 10 : Nat) : Int)).toNat = UInt8.ofNat (48 + u % 10) := by
      congr 1
    rw [digs_succ (by omega), List.map_append, List.map_singleton, hm]
    by_cases hu : u < 10
    · rw [decDigits_small hu, show u / 10 = 0 by omega, digs_zero, show u % 10 = u by omega]
      rfl
    · rw [decDigits_big hu, digs_text f (u / 10) (by omega) (by rw [Nat.pow_succ] at h1; omega)]
/-- The reference's digits are the library's. -/
theorem dec_text (u : Nat) (hu : u < 10 ^ 20) : (strOfNums (dec u)).data.toList = decDigits u := by
  rw [strOfNums_data]
  unfold dec
  split
  · rename_i h
    subst h
    decide +kernel
  · exact digs_text 20 u (by omega) hu
end Go.Proofs.YtcandpiafgicbaaGreatDoor
