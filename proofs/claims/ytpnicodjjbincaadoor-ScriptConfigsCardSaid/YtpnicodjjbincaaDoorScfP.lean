/- Configs as lines: plain. -/
import Derived.Test.YtpnicodjjbincaaDoorScrL
import Derived.Lib.ParseIntB
namespace Go.Proofs.YtpnicodjjbincaaDoor
set_option linter.unusedVariables false
open Go.Lib
def inB (z : Int) : Bool := decide (0 ≤ z) && decide (z ≤ 1152921504606846976)
theorem inB_iff (z : Int) : inB z = true ↔ 0 ≤ z ∧ z ≤ 1152921504606846976 := by simp [inB]
theorem inB_no {z : Int} (h : z < 0 ∨ 1152921504606846976 < z) : inB z = false := by
  cases hb : inB z with
  | false => rfl
  | true =>
    have := (inB_iff z).1 hb
    omega
def cfgT : Tx := [99, 111, 110, 102, 105, 103]
def numsT (L : List Int) : Tx := L.flatMap (fun z => 32 :: decDigits z.toNat)
/-- The numbers as a line. -/
def textC (L : List Int) : Tx := if L.all inB then cfgT ++ numsT L else []
/-- What ParseUint gives, with or without an error. -/
def pU (w : Tx) : Int := match parseUintB 64 w with
  | .ok u => (u : Int)
  | .range => 18446744073709551615
  | _ => 0
theorem uintM_digits (u : Nat) : ∀ (l : Tx) (acc : Nat), parseUint10 acc l = .ok u → parseUintM (2 ^ 64 - 1) acc l = .ok u
  | [], acc, h => by
    simp only [parseUint10] at h
    injection h with h
    subst h
    rfl
  | b :: l, acc, h => by
    unfold parseUint10 at h
    unfold parseUintM
    split at h
    · rename_i h1
      rw [if_pos h1]
      split at h
      · cases h
      · rename_i h2
        split at h
        · cases h
        · rename_i h3
          first
            | (rw [if_neg (by omega), if_neg (by omega)]; exact uintM_digits u l _ h)
            | (rw [if_neg (by omega)]; exact uintM_digits u l _ h)
    · cases h
theorem pU_digits (u : Nat) (h : u < 18446744073709551616) : pU (decDigits u) = u := by
  have : parseUintB 64 (decDigits u) = .ok u := by
    unfold parseUintB
    rw [if_neg (decDigits_ne u)]
    exact uintM_digits u _ _ (parse_digits u h)
  unfold pU
  rw [this]
theorem words_textC {L : List Int} (h : L.all inB = true) : cutT 32 (textC L) = cfgT :: L.map (fun z => decDigits z.toNat) := by
  unfold textC
  rw [if_pos h]
  have := wordsT_join 32 (L.map fun z => decDigits z.toNat) cfgT (by decide) (fun f hf c hc => by
    obtain ⟨z, _, rfl⟩ := List.mem_map.1 hf
    exact decDigits_blank _ c hc)
  rw [List.flatMap_map] at this
  exact this
def parL (ws : List Tx) : List Int := ((ws.drop 1).take 13).map atoiV
def parM (ws : List Tx) : Int := pU (ws.getD 14 [])
def zeroL : List Int := List.replicate 13 0
/-- The program's answer: the thirteen numbers, the last one, the error's number. -/
def parC (s : Tx) : (List Int × Int) × Int := if (cutT 32 s).length = 15 ∧ textC (parL (cutT 32 s) ++ [parM (cutT 32 s)]) = s then ((parL (cutT 32 s), parM (cutT 32 s)), 0) else ((zeroL, 0), 2)
def refL (ws : List Tx) : List Int := ((ws.drop 1).take 14).map (numR 1152921504606846976)
def refC (s : Tx) : (List Int × Int) × Int := if (cutT 32 s).length = 15 ∧ (refL (cutT 32 s)).all (fun z => decide (0 ≤ z)) = true ∧ textC (refL (cutT 32 s)) = s then (((refL (cutT 32 s)).take 13, (refL (cutT 32 s)).getD 13 0), 0) else ((zeroL, 0), 2)
theorem par_len {ws : List Tx} (h : ws.length = 15) : (parL ws).length = 13 := by simp [parL, h]
theorem ref_len {ws : List Tx} (h : ws.length = 15) : (refL ws).length = 14 := by simp [refL, h]
/-- The words of a line that is a config's, read again. -/
theorem cfg_words {L : List Int} (hl : L.length = 14) (h : L.all inB = true) : parL (cutT 32 (textC L)) = L.take 13 ∧ parM (cutT 32 (textC L)) = L.getD 13 0 ∧ refL (cutT 32 (textC L)) = L := by
  rw [words_textC h]
  have hb : ∀ z ∈ L, 0 ≤ z ∧ z ≤ 1152921504606846976 := fun z hz => (inB_iff z).1 (List.all_eq_true.1 h z hz)
  have h1 : ∀ (f : Tx → Int) (l : List Int), (∀ z ∈ l, f (decDigits z.toNat) = z) → (l.map fun z => decDigits z.toNat).map f = l := fun f l hf => by
    rw [List.map_map]
    conv => rhs; rw [← List.map_id l]
    exact List.map_congr_left hf
  refine ⟨?_, ?_, ?_⟩
  · unfold parL
    simp only [List.drop_succ_cons, List.drop_zero]
    rw [← List.map_take]
    refine h1 atoiV (L.take 13) fun z hz => ?_
    have := hb z (List.mem_of_mem_take hz)
    rw [atoiV_digits _ (by omega)]
    omega
  · unfold parM
    have h13 : 13 < L.length := by omega
    simp only [List.getD_cons_succ]
    rw [List.getD_eq_getElem?_getD, List.getD_eq_getElem?_getD, List.getElem?_map, List.getElem?_eq_getElem h13]
    simp only [Option.map_some, Option.getD_some]
    have := hb _ (List.getElem_mem h13)
    rw [pU_digits _ (by omega)]
    omega
  · unfold refL
    simp only [List.drop_succ_cons, List.drop_zero]
    rw [List.take_of_length_le (by rw [List.length_map]; omega)]
    refine h1 _ L fun z hz => ?_
    have := hb z hz
    have hn := numR_digits 1152921504606846976 (by decide) z.toNat (by omega)
    rw [show ((1152921504606846976 : Nat) : Int) = 1152921504606846976 from rfl] at hn
    rw [hn]
    omega
theorem split13 {L : List Int} (hl : L.length = 14) : L.take 13 ++ [L.getD 13 0] = L := by
  have h13 : 13 < L.length := by omega
  rw [List.getD_eq_getElem?_getD, List.getElem?_eq_getElem h13]
  simp only [Option.getD_some]
  rw [← List.take_succ_eq_append_getElem h13]
  exact List.take_of_length_le (by omega)
theorem text_none {s : Tx} {L : List Int} (h : (cutT 32 s).length = 15) (ht : textC L = s) : L.all inB = true := by
  cases hb : L.all inB with
  | true => rfl
  | false =>
    unfold textC at ht
    rw [hb] at ht
    simp only [Bool.false_eq_true, if_false] at ht
    subst ht
    simp [cutT] at h
theorem par_same (s : Tx) : parC s = refC s := by
  unfold parC refC
  by_cases h : (cutT 32 s).length = 15
  · by_cases h1 : textC (parL (cutT 32 s) ++ [parM (cutT 32 s)]) = s
    · have hb := text_none h h1
      have hl : (parL (cutT 32 s) ++ [parM (cutT 32 s)]).length = 14 := by rw [List.length_append, par_len h]; rfl
      obtain ⟨e1, e2, e3⟩ := cfg_words hl hb
      rw [h1] at e1 e2 e3
      have hpos : (refL (cutT 32 s)).all (fun z => decide (0 ≤ z)) = true := by
        rw [e3]
        refine List.all_eq_true.2 fun z hz => ?_
        have := (inB_iff z).1 (List.all_eq_true.1 hb z hz)
        simpa using this.1
      rw [if_pos ⟨h, h1⟩, if_pos ⟨h, hpos, by rw [e3]; exact h1⟩]
      rw [e3, ← e1, ← e2]
    · rw [if_neg fun e => h1 e.2]
      rw [if_neg]
      rintro ⟨_, _, h2⟩
      have hb := text_none h h2
      obtain ⟨e1, e2, e3⟩ := cfg_words (ref_len h) hb
      rw [h2] at e1 e2
      exact h1 (by rw [e1, e2, split13 (ref_len h)]; exact h2)
  · rw [if_neg fun e => h e.1, if_neg fun e => h e.1]
/-- What was written is read as it was. -/
theorem cfg_text {l : List Int} {m : Int} (hl : l.length = 13) : parC (textC (l ++ [m])) = if textC (l ++ [m]) = [] then ((zeroL, 0), 2) else ((l, m), 0) := by
  cases hb : (l ++ [m]).all inB with
  | false =>
    have : textC (l ++ [m]) = [] := by unfold textC; rw [hb]; rfl
    rw [this, if_pos rfl]
    unfold parC
    rw [if_neg fun e => by have := e.1; simp [cutT] at this]
  | true =>
    have hL : (l ++ [m]).length = 14 := by rw [List.length_append, hl]; rfl
    have hne : textC (l ++ [m]) ≠ [] := by unfold textC; rw [hb]; simp [cfgT]
    rw [if_neg hne]
    obtain ⟨e1, e2, e3⟩ := cfg_words hL hb
    have hlen : (cutT 32 (textC (l ++ [m]))).length = 15 := by rw [words_textC hb, List.length_cons, List.length_map, hL]
    have f1 : (l ++ [m]).take 13 = l := by rw [← hl]; exact List.take_left
    have f2 : (l ++ [m]).getD 13 0 = m := by rw [← hl]; simp [List.getD_eq_getElem?_getD]
    unfold parC
    rw [e1, e2, f1, f2, if_pos ⟨hlen, rfl⟩]
end Go.Proofs.YtpnicodjjbincaaDoor
