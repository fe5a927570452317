/- A line is read as it was written: plain. -/
import Derived.Test.YtigkndbkaagboaaGreatDoorScrQ
namespace Go.Proofs.YtigkndbkaagboaaGreatDoor
set_option linter.unusedVariables false
set_option linter.unusedSimpArgs false
open Go.Lib
def fieldT (o : OpT) (c : UInt8) : Tx := (fieldV o c).getD []
def isF (c : UInt8) : Prop := c = 97 ∨ c = 98 ∨ c = 110 ∨ c = 100
theorem textF_all (o : OpT) : ∀ (f acc : Tx), (∀ c ∈ f, (fieldV o c).isSome = true) → textF o acc f = acc ++ (f.map (fieldT o)).flatMap (fun t => 32 :: t)
  | [], acc, _ => by simp [textF]
  | c :: f, acc, h => by
    have hc := h c (List.mem_cons_self ..)
    obtain ⟨t, ht⟩ := Option.isSome_iff_exists.1 hc
    rw [textF_step, ht]
    simp only []
    rw [textF_all o f _ fun c' hc' => h c' (List.mem_cons_of_mem _ hc'), List.map_cons, List.flatMap_cons, List.append_assoc]
    simp [fieldT, ht]
theorem textF_none (o : OpT) : ∀ (f acc : Tx) (c : UInt8), c ∈ f → fieldV o c = none → textF o acc f = []
  | [], _, c, h, _ => by cases h
  | b :: f, acc, c, h, hn => by
    rw [textF_step]
    cases hb : fieldV o b with
    | none => rfl
    | some t =>
      simp only []
      rcases List.mem_cons.1 h with rfl | h
      · rw [hb] at hn; cases hn
      · exact textF_none o f _ c h hn
/-- What is written has a kind, and all its fields are in their ranges. -/
theorem textO_ok {o : OpT} (h : textO o ≠ []) : 1 ≤ o.kind ∧ o.kind ≤ 14 ∧ ∀ c ∈ fieldsK o.kind.toNat, (fieldV o c).isSome = true := by
  unfold textO at h
  split at h
  · rename_i hk
    refine ⟨hk.1, hk.2, fun c hc => ?_⟩
    cases hv : fieldV o c with
    | some t => rfl
    | none => exact absurd (textF_none o _ _ c hc hv) h
  · exact absurd rfl h
theorem fieldT_blank (o : OpT) (c : UInt8) : ∀ x ∈ fieldT o c, x ≠ 32 := by
  intro x hx
  unfold fieldT fieldV at hx
  split at hx
  · split at hx
    · exact decDigits_blank _ x hx
    · simp at hx
  · split at hx
    · split at hx
      · exact decDigits_blank _ x hx
      · simp at hx
    · split at hx
      · split at hx
        · exact decDigits_blank _ x hx
        · simp at hx
      · split at hx
        · exact hexL_blank _ x hx
        · simp at hx
theorem word_facts : ∀ k : Fin 15, (∀ c ∈ wordK k.val, c ≠ 32) ∧ (1 ≤ k.val → wordK k.val ≠ [] ∧ placeF (wordK k.val) kindW 0 = k.val) ∧ (fieldsK k.val).Nodup ∧ (∀ c ∈ fieldsK k.val, c = 97 ∨ c = 98 ∨ c = 110 ∨ c = 100) := by decide +kernel
theorem textO_words {o : OpT} (h : textO o ≠ []) : wordsT (textO o) = wordK o.kind.toNat :: (fieldsK o.kind.toNat).map (fieldT o) := by
  obtain ⟨h1, h2, h3⟩ := textO_ok h
  have hw := word_facts ⟨o.kind.toNat, by omega⟩
  have e : textO o = wordK o.kind.toNat ++ ((fieldsK o.kind.toNat).map (fieldT o)).flatMap (fun t => 32 :: t) := by
    unfold textO
    rw [if_pos ⟨h1, h2⟩, textF_all o _ _ h3]
  rw [e]
  exact wordsT_join 32 _ _ hw.1 fun f hf => by
    obtain ⟨c, _, rfl⟩ := List.mem_map.1 hf
    exact fieldT_blank o c
/-- One field of another op. -/
def setF (t o : OpT) (c : UInt8) : OpT := if c = 97 then { t with a := o.a } else if c = 98 then { t with b := o.b } else if c = 110 then { t with n := o.n } else { t with data := o.data }
def fillN : OpT → OpT → Tx → OpT
  | t, o, [] => t
  | t, o, c :: f => fillN (setF t o c) o f
/-- An op, as far as its kind names fields. -/
def normO (o : OpT) : OpT := fillN { zeroO with kind := o.kind } o (fieldsK o.kind.toNat)
theorem fillN_kind : ∀ (f : Tx) (t o : OpT), (fillN t o f).kind = t.kind
  | [], t, o => rfl
  | c :: f, t, o => by
    rw [fillN, fillN_kind f]
    unfold setF
    split
    · rfl
    · split
      · rfl
      · split <;> rfl
theorem fillN_keep : ∀ (f : Tx) (t o : OpT) (c : UInt8), isF c → (fieldV t c = fieldV o c ∨ c ∈ f) → fieldV (fillN t o f) c = fieldV o c
  | [], t, o, c, _, h => by
    rcases h with h | h
    · exact h
    · cases h
  | b :: f, t, o, c, hc, h => by
    rw [fillN]
    refine fillN_keep f _ o c hc ?_
    by_cases hm : c ∈ f
    · exact .inr hm
    · left
      have h' : fieldV t c = fieldV o c ∨ c = b := by
        rcases h with h | h
        · exact .inl h
        · rcases List.mem_cons.1 h with h | h
          · exact .inr h
          · exact absurd h hm
      unfold setF
      by_cases hb97 : b = 97
      · subst hb97
        rcases hc with rfl | rfl | rfl | rfl <;> simp [fieldV] <;> simpa [fieldV] using h'
      · by_cases hb98 : b = 98
        · subst hb98
          rcases hc with rfl | rfl | rfl | rfl <;> simp [fieldV] <;> simpa [fieldV] using h'
        · by_cases hb110 : b = 110
          · subst hb110
            rcases hc with rfl | rfl | rfl | rfl <;> simp [fieldV] <;> simpa [fieldV] using h'
          · rw [if_neg hb97, if_neg hb98, if_neg hb110]
            rcases hc with rfl | rfl | rfl | rfl
            · simpa [fieldV, Ne.symm hb97] using h'
            · simpa [fieldV, Ne.symm hb98] using h'
            · simpa [fieldV, Ne.symm hb110] using h'
            · simp [fieldV]
theorem textF_congr {o p : OpT} : ∀ (f acc : Tx), (∀ c ∈ f, fieldV p c = fieldV o c) → textF p acc f = textF o acc f
  | [], acc, _ => rfl
  | c :: f, acc, h => by
    rw [textF_step, textF_step, h c (List.mem_cons_self ..)]
    cases fieldV o c with
    | none => rfl
    | some t => exact textF_congr f _ fun c' hc' => h c' (List.mem_cons_of_mem _ hc')
theorem norm_text {o : OpT} (h : textO o ≠ []) : textO (normO o) = textO o := by
  obtain ⟨h1, h2, h3⟩ := textO_ok h
  have hw := word_facts ⟨o.kind.toNat, by omega⟩
  have hk : (normO o).kind = o.kind := fillN_kind _ _ _
  unfold textO
  rw [hk]
  split
  · exact textF_congr _ _ fun c hc => fillN_keep _ _ o c (hw.2.2.2 c hc) (.inr hc)
  · rfl
theorem num_some {x : Int} {t : Tx} (h : (if okNum x then some (decDigits x.toNat) else none) = some t) : 0 ≤ x ∧ x ≤ 1099511627776 ∧ t = decDigits x.toNat := by
  split at h
  · rename_i hk
    unfold okNum at hk
    simp only [Bool.and_eq_true, decide_eq_true_eq] at hk
    injection h with h
    exact ⟨hk.1, hk.2, h.symm⟩
  · cases h
theorem fill1_text {t o : OpT} {c : UInt8} (hc : isF c) (hs : (fieldV o c).isSome = true) (hd : c = 100 → t.data = []) : fill1 t c (fieldT o c) = setF t o c := by
  obtain ⟨x, hx⟩ := Option.isSome_iff_exists.1 hs
  have hf : fieldT o c = x := by unfold fieldT; rw [hx]; rfl
  rw [hf]
  rcases hc with rfl | rfl | rfl | rfl
  · obtain ⟨h0, h1, rfl⟩ := num_some (x := o.a) (by simpa [fieldV] using hx)
    simp [fill1, setF, atoiV_digits o.a.toNat (by omega), h0]
    omega
  · obtain ⟨h0, h1, rfl⟩ := num_some (x := o.b) (by simpa [fieldV] using hx)
    simp [fill1, setF, atoiV_digits o.b.toNat (by omega), h0]
    omega
  · obtain ⟨h0, h1, rfl⟩ := num_some (x := o.n) (by simpa [fieldV] using hx)
    simp [fill1, setF, atoiV_digits o.n.toNat (by omega), h0]
    omega
  · have hx' : x = hexL o.data := by
      simp [fieldV] at hx
      exact hx.2.symm
    subst hx'
    by_cases h0 : o.data = []
    · rw [h0]
      have hd' := hd rfl
      have : t = { t with data := [] } := by cases t; simp at hd'; simp [hd']
      simp [fill1, setF, hexL, h0]
      exact this
    · have hb := bytesP_hex o.data
      unfold bytesP at hb
      rw [if_neg (hexL_dash h0)] at hb
      simp [fill1, setF, hexL_dash h0, hb]
theorem setF_data (t o : OpT) (c : UInt8) (hc : isF c) (h : c ≠ 100) : (setF t o c).data = t.data := by
  rcases hc with rfl | rfl | rfl | rfl
  · rfl
  · rfl
  · rfl
  · exact absurd rfl h
theorem fill_text (o : OpT) : ∀ (f : Tx) (t : OpT), f.Nodup → (∀ c ∈ f, isF c ∧ (fieldV o c).isSome = true) → (100 ∈ f → t.data = []) → fillP t f (f.map (fieldT o)) = fillN t o f
  | [], t, _, _, _ => rfl
  | c :: f, t, hn, hf, hd => by
    rw [List.nodup_cons] at hn
    have hc := hf c (List.mem_cons_self ..)
    rw [List.map_cons]
    show fillP (fill1 t c (fieldT o c)) f (f.map (fieldT o)) = fillN (setF t o c) o f
    rw [fill1_text hc.1 hc.2 fun e => hd (by rw [e]; exact List.mem_cons_self ..)]
    refine fill_text o f _ hn.2 (fun c' hc' => hf c' (List.mem_cons_of_mem _ hc')) fun h100 => ?_
    rw [setF_data t o c hc.1 (fun e => hn.1 (by rw [e]; exact h100))]
    exact hd (List.mem_cons_of_mem _ h100)
/-- What is written is read as it was. -/
theorem par_text {o : OpT} (h : textO o ≠ []) : parP (textO o) = (normO o, 0) := by
  obtain ⟨h1, h2, h3⟩ := textO_ok h
  have hw := word_facts ⟨o.kind.toNat, by omega⟩
  have hp := (hw.2.1 (by show 1 ≤ o.kind.toNat; omega)).2
  simp only at hp hw
  have hws := textO_words h
  have hpo : parO (textO o) = normO o := by
    unfold parO
    rw [hws]
    simp only [List.headD_cons, List.tail_cons, hp]
    have e : (((o.kind.toNat : Nat) : Int)).toNat = o.kind.toNat := rfl
    rw [e, fill_text o _ _ hw.2.2.1 (fun c hc => ⟨hw.2.2.2 c hc, h3 c hc⟩) (fun _ => rfl)]
    unfold normO
    rw [show ((o.kind.toNat : Nat) : Int) = o.kind by omega]
  have hok : parOk (textO o) = true := by
    unfold parOk
    rw [hws]
    simp only [List.headD_cons, hp, List.length_cons, List.length_map]
    have e : (((o.kind.toNat : Nat) : Int)).toNat = o.kind.toNat := rfl
    rw [e]
    simp
    omega
  unfold parP
  rw [if_pos ⟨hok, by rw [hpo, norm_text h]⟩, hpo]
/-- What is read as an op is its text. -/
theorem par_back {s : Tx} : (parP s = (parO s, 0) ∧ textO (parO s) = s ∧ s ≠ []) ∨ parP s = (zeroO, 2) := by
  unfold parP
  split
  · rename_i h
    left
    refine ⟨rfl, h.2, fun e => ?_⟩
    have := h.1
    rw [e] at this
    revert this
    decide
  · right; rfl
end Go.Proofs.YtigkndbkaagboaaGreatDoor
