/- Lines, words, numbers and bytes as texts: plain lists. -/
import Derived.Lib.ItoaNum
import Derived.Lib.AtoiAll
import Derived.Lib.Split
import Derived.Lib.Index
namespace Go.Proofs.YtcandpiafgicbaaGreatDoor
set_option linter.unusedVariables false
open Go.Lib
abbrev Tx := List UInt8
/-- A text as a string. -/
def tb (l : Tx) : ByteArray := ⟨l.toArray⟩
theorem tb_data (l : Tx) : (tb l).data.toList = l := by simp [tb]
theorem tb_of (s : ByteArray) : tb s.data.toList = s := by simp [tb]
theorem tb_size (l : Tx) : (tb l).size = l.length := by simp [tb, ByteArray.size]
theorem tb_inj {a b : Tx} (h : tb a = tb b) : a = b := by rw [← tb_data a, h, tb_data]
theorem tb_append (a b : Tx) : tb a ++ tb b = tb (a ++ b) := by
  apply ByteArray.ext
  simp [tb]
theorem data_inj {a b : ByteArray} (h : a.data.toList = b.data.toList) : a = b := by rw [← tb_of a, h, tb_of]
/-! Words between blanks. -/
def cutT (x : UInt8) : Tx → List Tx
  | [] => [[]]
  | c :: r => if c = x then [] :: cutT x r else match cutT x r with
    | [] => [[c]]
    | h :: t => (c :: h) :: t
theorem wordsT_ne (x : UInt8) (s : Tx) : cutT x s ≠ [] := by
  cases s with
  | nil => simp [cutT]
  | cons c r =>
    unfold cutT
    split
    · simp
    · split <;> simp
theorem wordsT_blank (x : UInt8) (r : Tx) : cutT x (x :: r) = [] :: cutT x r := by rw [cutT, if_pos rfl]
theorem wordsT_app (x : UInt8) : ∀ (a r : Tx), (∀ c ∈ a, c ≠ x) → cutT x (a ++ x :: r) = a :: cutT x r
  | [], r, _ => wordsT_blank x r
  | c :: a, r, h => by
    have ih := wordsT_app x a r fun c hc => h c (List.mem_cons_of_mem _ hc)
    rw [List.cons_append, cutT, if_neg (h c (List.mem_cons_self ..)), ih]
theorem wordsT_one (x : UInt8) : ∀ (a : Tx), (∀ c ∈ a, c ≠ x) → cutT x a = [a]
  | [], _ => rfl
  | c :: a, h => by
    rw [cutT, if_neg (h c (List.mem_cons_self ..)), wordsT_one x a fun c hc => h c (List.mem_cons_of_mem _ hc)]
/-- A word and more words, put together. -/
theorem wordsT_join (x : UInt8) : ∀ (fs : List Tx) (w : Tx), (∀ c ∈ w, c ≠ x) → (∀ f ∈ fs, ∀ c ∈ f, c ≠ x) → cutT x (w ++ fs.flatMap (fun f => x :: f)) = w :: fs
  | [], w, hw, _ => by simpa using wordsT_one x w hw
  | f :: fs, w, hw, hf => by
    rw [List.flatMap_cons, List.cons_append, wordsT_app x w _ hw, wordsT_join x fs f (hf f (List.mem_cons_self ..)) fun g hg => hf g (List.mem_cons_of_mem _ hg)]
theorem wordsT_more (x : UInt8) : ∀ (s r : Tx), cutT x (s ++ x :: r) = cutT x s ++ cutT x r
  | [], r => wordsT_blank x r
  | c :: s, r => by
    by_cases hc : c = x
    · rw [hc]
      rw [List.cons_append, wordsT_blank x, wordsT_blank x, wordsT_more x s r, List.cons_append]
    · rw [List.cons_append, cutT, if_neg hc, wordsT_more x s r, cutT, if_neg hc]
      have := wordsT_ne x s
      cases h : cutT x s with
      | nil => exact absurd h this
      | cons a t => simp
theorem wordsT_len (x : UInt8) : ∀ (s : Tx), (cutT x s).length = s.count x + 1
  | [] => rfl
  | c :: r => by
    by_cases hc : c = x
    · rw [hc, wordsT_blank x, List.length_cons, wordsT_len x r]
      simp
    · have ih := wordsT_len x r
      rw [cutT, if_neg hc, List.count_cons]
      have := wordsT_ne x r
      cases h : cutT x r with
      | nil => exact absurd h this
      | cons a t =>
        rw [h] at ih
        simp only [List.length_cons] at ih ⊢
        have : (c == x) = false := by simpa using hc
        rw [this]
        simp
        omega
theorem wordsT_bound (x : UInt8) : ∀ (s : Tx) (w : Tx), w ∈ cutT x s → w.length ≤ s.length
  | [], w, h => by simp [cutT] at h; subst h; simp
  | c :: r, w, h => by
    by_cases hc : c = x
    · rw [hc, wordsT_blank x] at h
      rcases List.mem_cons.1 h with rfl | h
      · simp
      · have := wordsT_bound x r w h
        simp; omega
    · rw [cutT, if_neg hc] at h
      have hne := wordsT_ne x r
      cases hr : cutT x r with
      | nil => exact absurd hr hne
      | cons a t =>
        rw [hr] at h
        simp only [List.mem_cons] at h
        rcases h with rfl | h
        · have := wordsT_bound x r a (by rw [hr]; simp)
          simp; omega
        · have := wordsT_bound x r w (by rw [hr]; simp [h])
          simp; omega
/-- Words between blanks. -/
abbrev wordsT : Tx → List Tx := cutT 32
/-! Digits. -/
theorem decDigits_small {u : Nat} (h : u < 10) : decDigits u = [UInt8.ofNat (48 + u)] := by rw [decDigits, dif_pos h]
theorem decDigits_big {u : Nat} (h : ¬ u < 10) : decDigits u = decDigits (u / 10) ++ [UInt8.ofNat (48 + u % 10)] := by rw [decDigits, dif_neg h]
theorem digit_nat {d : Nat} (h : d < 10) : (UInt8.ofNat (48 + d)).toNat = 48 + d := by
  rw [UInt8.toNat_ofNat']
  omega
theorem decDigits_mem (u : Nat) : ∀ c ∈ decDigits u, 48 ≤ c.toNat ∧ c.toNat ≤ 57 := by
  induction u using Nat.strongRecOn with
  | _ u ih =>
    intro c hc
    by_cases h : u < 10
    · rw [decDigits_small h] at hc
      simp only [List.mem_singleton] at hc
      subst hc
      rw [digit_nat h]
      omega
    · rw [decDigits_big h] at hc
      rcases List.mem_append.1 hc with hc | hc
      · exact ih (u / 10) (by omega) c hc
      · simp only [List.mem_singleton] at hc
        subst hc
        rw [digit_nat (Nat.mod_lt _ (by decide))]
        omega
theorem decDigits_ne (u : Nat) : decDigits u ≠ [] := by
  by_cases h : u < 10
  · rw [decDigits_small h]; simp
  · rw [decDigits_big h]; simp
theorem decDigits_blank (u : Nat) : ∀ c ∈ decDigits u, c ≠ 32 := fun c hc e => by
  have := decDigits_mem u c hc
  subst e
  revert this
  decide
theorem parseUint10_snoc : ∀ (l : Tx) (acc v : Nat) (c : UInt8), parseUint10 acc l = .ok v → parseUint10 acc (l ++ [c]) = parseUint10 v [c]
  | [], acc, v, c, h => by
    simp only [parseUint10] at h
    injection h with h
    subst h
    rfl
  | b :: l, acc, v, c, h => by
    rw [List.cons_append]
    unfold parseUint10 at h
    unfold parseUint10
    split at h
    · rename_i h1
      rw [if_pos h1]
      split at h
      · cases h
      · rename_i h2
        rw [if_neg h2]
        split at h
        · cases h
        · rename_i h3
          rw [if_neg h3]
          exact parseUint10_snoc l _ v c h
    · cases h
theorem parse_digits (u : Nat) : u < 18446744073709551616 → parseUint10 0 (decDigits u) = .ok u := by
  induction u using Nat.strongRecOn with
  | _ u ih =>
    intro hu
    by_cases h : u < 10
    · rw [decDigits_small h]
      unfold parseUint10
      rw [digit_nat h, if_pos (by omega), if_neg (by omega), if_neg (by omega)]
      unfold parseUint10
      congr 1
      omega
    · rw [decDigits_big h, parseUint10_snoc _ _ _ _ (ih (u / 10) (by omega) (by omega))]
      unfold parseUint10
      rw [digit_nat (Nat.mod_lt _ (by decide)), if_pos (by omega), if_neg (by omega), if_neg (by omega)]
      unfold parseUint10
      congr 1
      omega
/-- What Atoi leaves in the variable, with or without an error. -/
def atoiV (l : Tx) : Int := match atoiAll l with
  | .ok v => v
  | .range => atoiSat l
  | _ => 0
theorem atoiV_digits (u : Nat) (h : u < 9223372036854775808) : atoiV (decDigits u) = u := by
  have hp : parseMag (decDigits u) = .ok u := by unfold parseMag; rw [if_neg (decDigits_ne u)]; exact parse_digits u (by omega)
  have hm := decDigits_mem u
  have hne := decDigits_ne u
  unfold atoiV
  have : atoiAll (decDigits u) = .ok u := by
    generalize decDigits u = l at hp hm hne
    cases l with
    | nil => exact absurd rfl hne
    | cons c r =>
      have hc := hm c (List.mem_cons_self ..)
      unfold atoiAll
      have h1 : ¬ (c.toNat = 43 ∨ c.toNat = 45) := by omega
      have h2 : ¬ c.toNat = 45 := by omega
      have h3 : ¬ c.toNat = 43 := by omega
      simp only [h2, h3, or_self, not_false_eq_true, true_and, false_and, if_false]
      rw [hp]
      simp only []
      rw [if_neg (by omega)]
  rw [this]
/-- The reference's number: digits, each step not beyond 'high'. -/
def numStep (high : Int) (n : Int) (c : UInt8) : Option Int :=
  let d : Int := (c.toNat : Int) - 48
  if d < 0 ∨ 9 < d ∨ n > (high - d).tdiv 10 then none else some (10 * n + d)
def numLoop (high : Int) : Int → Tx → Option Int
  | n, [] => some n
  | n, c :: r => match numStep high n c with
    | none => none
    | some m => numLoop high m r
def numEnd (s : Tx) : Option Int → Int
  | none => -1
  | some n => if decDigits n.toNat = s then n else -1
def numR (high : Int) (s : Tx) : Int := if s = [] ∨ 19 < s.length then -1 else numEnd s (numLoop high 0 s)
theorem numLoop_app : ∀ (high : Int) (l : Tx) (n v : Int) (c : UInt8), numLoop high n l = some v → numLoop high n (l ++ [c]) = numStep high v c
  | high, [], n, v, c, h => by
    simp only [numLoop] at h
    injection h with h
    subst h
    rw [List.nil_append]
    unfold numLoop
    cases numStep high n c <;> rfl
  | high, b :: l, n, v, c, h => by
    rw [List.cons_append]
    unfold numLoop at h ⊢
    cases hs : numStep high n b with
    | none => rw [hs] at h; cases h
    | some m =>
      rw [hs] at h
      exact numLoop_app high l m v c h
theorem numLoop_digits (high : Nat) (hh : high < 9223372036854775808) (u : Nat) : u ≤ high → numLoop high 0 (decDigits u) = some (u : Int) := by
  induction u using Nat.strongRecOn with
  | _ u ih =>
    intro hu
    by_cases h : u < 10
    · rw [decDigits_small h]
      unfold numLoop numStep
      rw [digit_nat h]
      simp only []
      have : ((high : Int) - ((48 + u : Nat) - 48 : Int)).tdiv 10 = ((high - u) / 10 : Nat) := by
        rw [show ((high : Int) - ((48 + u : Nat) - 48 : Int)) = ((high - u : Nat) : Int) by omega]
        rfl
      rw [this, if_neg (by omega)]
      have e : 10 * (0 : Int) + (((48 + u : Nat) : Int) - 48) = u := by omega
      simp only [numLoop, e]
    · rw [decDigits_big h, numLoop_app _ _ _ _ _ (ih (u / 10) (by omega) (by omega))]
      unfold numStep
      rw [digit_nat (Nat.mod_lt _ (by decide))]
      simp only []
      have : ((high : Int) - ((48 + u % 10 : Nat) - 48 : Int)).tdiv 10 = ((high - u % 10) / 10 : Nat) := by
        rw [show ((high : Int) - ((48 + u % 10 : Nat) - 48 : Int)) = ((high - u % 10 : Nat) : Int) by omega]
        rfl
      rw [this, if_neg (by omega)]
      congr 1
      omega
theorem decDigits_len : ∀ (k u : Nat), u < 10 ^ k → 1 ≤ k → (decDigits u).length ≤ k
  | 0, u, _, h => by omega
  | k + 1, u, h, _ => by
    by_cases hu : u < 10
    · rw [decDigits_small hu]; simp
    · rw [decDigits_big hu, List.length_append]
      have : u / 10 < 10 ^ k := by rw [Nat.pow_succ] at h; omega
      cases k with
      | zero => simp at this; omega
      | succ k =>
        have := decDigits_len (k + 1) (u / 10) this (by omega)
        simp; omega
theorem numR_digits (high : Nat) (hh : high < 9223372036854775808) (u : Nat) (hu : u ≤ high) : numR high (decDigits u) = u := by
  unfold numR
  have hl := decDigits_len 19 u (by omega) (by omega)
  rw [if_neg (fun e => e.elim (decDigits_ne u) (by omega)), numLoop_digits high hh u hu]
  simp [numEnd]
/-! Bytes as digits. -/
def hexDigits : Tx := [48, 49, 50, 51, 52, 53, 54, 55, 56, 57, 97, 98, 99, 100, 101, 102]
def hexOf (c : UInt8) : Tx := [hexDigits.getD (c.toNat / 16) 0, hexDigits.getD (c.toNat % 16) 0]
def hexL (d : Tx) : Tx := if d = [] then [45] else d.flatMap hexOf
/-- One byte of two digits, as the program reads them: what is no digit counts as -1. -/
def pairV (i j : Int) : UInt8 := UInt8.ofNat ((if i = -1 then 240 else 16 * i.toNat) + (if j = -1 then 15 else j.toNat))
def unhexP : Tx → Tx
  | x :: y :: r => pairV (indexByte hexDigits x) (indexByte hexDigits y) :: unhexP r
  | _ => []
theorem idx_all : ∀ c : Fin 256, -1 ≤ indexByte hexDigits (UInt8.ofNat c.val) ∧ indexByte hexDigits (UInt8.ofNat c.val) ≤ 15 := by decide +kernel
def digitR (c : UInt8) : Option Nat := if 48 ≤ c.toNat ∧ c.toNat ≤ 57 then some (c.toNat - 48) else if 97 ≤ c.toNat ∧ c.toNat ≤ 102 then some (c.toNat - 97 + 10) else none
def unhexPairs : Tx → Option Tx
  | [] => some []
  | [_] => none
  | x :: y :: r => match digitR x, digitR y with
    | some a, some b => match unhexPairs r with
      | some t => some (UInt8.ofNat (16 * a + b) :: t)
      | none => none
    | _, _ => none
/-- The reference's bytes: none: it is no such word. -/
def unhexR (s : Tx) : Tx := if s = [45] then [] else if s = [] then [] else (unhexPairs s).getD []
theorem hex_all : ∀ c : Fin 256, pairV (indexByte hexDigits (hexDigits.getD (c.val / 16) 0)) (indexByte hexDigits (hexDigits.getD (c.val % 16) 0)) = UInt8.ofNat c.val ∧ True ∧
    digitR (hexDigits.getD (c.val / 16) 0) = some (c.val / 16) ∧ digitR (hexDigits.getD (c.val % 16) 0) = some (c.val % 16) ∧ hexDigits.getD (c.val / 16) 0 ≠ 32 ∧ hexDigits.getD (c.val % 16) 0 ≠ 32 ∧ hexDigits.getD (c.val / 16) 0 ≠ 45 := by decide +kernel
theorem u8_of (c : UInt8) : UInt8.ofNat c.toNat = c := by simp
theorem idx_bd (c : UInt8) : -1 ≤ indexByte hexDigits c ∧ indexByte hexDigits c ≤ 15 := by
  have := idx_all ⟨c.toNat, c.toNat_lt⟩
  simpa using this
theorem unhexP_hex : ∀ d : Tx, unhexP (d.flatMap hexOf) = d
  | [] => rfl
  | c :: d => by
    obtain ⟨h1, h2, _⟩ := hex_all ⟨c.toNat, c.toNat_lt⟩
    rw [List.flatMap_cons]
    show unhexP (hexDigits.getD (c.toNat / 16) 0 :: hexDigits.getD (c.toNat % 16) 0 :: d.flatMap hexOf) = _
    rw [unhexP, h1, u8_of, unhexP_hex d]
theorem unhexPairs_hex : ∀ d : Tx, unhexPairs (d.flatMap hexOf) = some d
  | [] => rfl
  | c :: d => by
    obtain ⟨h1, h2, h3, h4, _⟩ := hex_all ⟨c.toNat, c.toNat_lt⟩
    rw [List.flatMap_cons]
    show unhexPairs (hexDigits.getD (c.toNat / 16) 0 :: hexDigits.getD (c.toNat % 16) 0 :: d.flatMap hexOf) = _
    rw [unhexPairs, h3, h4, unhexPairs_hex d]
    simp only []
    rw [show 16 * (c.toNat / 16) + c.toNat % 16 = c.toNat by omega, u8_of]
theorem hexL_ne (d : Tx) : hexL d ≠ [] := by
  unfold hexL
  split
  · simp
  · cases d with
    | nil => exact absurd rfl ‹_›
    | cons c d => simp [hexOf]
theorem hexL_blank (d : Tx) : ∀ c ∈ hexL d, c ≠ 32 := by
  intro c hc
  unfold hexL at hc
  split at hc
  · simp only [List.mem_singleton] at hc
    subst hc
    decide
  · obtain ⟨b, _, hb⟩ := List.mem_flatMap.1 hc
    obtain ⟨_, _, _, _, h5, h6, _⟩ := hex_all ⟨b.toNat, b.toNat_lt⟩
    simp only [hexOf, List.mem_cons, List.not_mem_nil, or_false] at hb
    rcases hb with rfl | rfl
    · exact h5
    · exact h6
theorem hexL_dash {d : Tx} (h : d ≠ []) : hexL d ≠ [45] := by
  cases d with
  | nil => exact absurd rfl h
  | cons c d => simp [hexL, hexOf]
/-- What the program makes of a word of bytes. -/
def bytesP (w : Tx) : Tx := if w = [45] then [] else unhexP w
theorem bytesP_hex (d : Tx) : bytesP (hexL d) = d := by
  by_cases h : d = []
  · subst h; rfl
  · unfold bytesP
    rw [if_neg (hexL_dash h)]
    unfold hexL
    rw [if_neg h, unhexP_hex]
theorem unhexR_hex (d : Tx) : unhexR (hexL d) = d := by
  by_cases h : d = []
  · subst h; rfl
  · unfold unhexR
    rw [if_neg (hexL_dash h), if_neg (hexL_ne d)]
    unfold hexL
    rw [if_neg h, unhexPairs_hex]
    rfl
end Go.Proofs.YtcandpiafgicbaaGreatDoor
