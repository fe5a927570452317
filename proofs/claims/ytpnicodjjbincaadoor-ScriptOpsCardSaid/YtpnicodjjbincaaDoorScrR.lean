/- The program's and the reference's answers to a line are the same: plain. -/
import Derived.Test.YtpnicodjjbincaaDoorScrL
namespace Go.Proofs.YtpnicodjjbincaaDoor
set_option linter.unusedVariables false
open Go.Lib
/-- The last Kind below k whose word is x; 0: none. -/
def kindUp (x : Tx) : Nat → Nat
  | 0 => 0
  | k + 1 => if 1 ≤ k ∧ wordK k = x then k else kindUp x k
def fill1R (o : OpT) (c : UInt8) (w : Tx) : OpT :=
  if c = 97 then { o with a := numR 1099511627776 w } else if c = 98 then { o with b := numR 1099511627776 w } else if c = 110 then { o with n := numR 1099511627776 w } else { o with data := unhexR w }
def fillR : OpT → Tx → List Tx → OpT
  | o, [], _ => o
  | o, _, [] => o
  | o, c :: f, w :: r => fillR (fill1R o c w) f r
def refK (s : Tx) : Nat := kindUp ((wordsT s).headD []) 15
def refO (s : Tx) : OpT := fillR { zeroO with kind := (refK s : Int) } (fieldsK (refK s)) ((wordsT s).tail ++ [[], [], [], []])
def refP (s : Tx) : OpT × Int := if refK s = 0 ∨ textO (refO s) ≠ s then (zeroO, 2) else (refO s, 0)
theorem kindUp_word : ∀ k : Fin 15, 1 ≤ k.val → kindUp (wordK k.val) 15 = k.val := by decide +kernel
theorem kindUp_nil : kindUp [] 15 = 0 := by decide +kernel
theorem kindUp_lt (x : Tx) : ∀ k, kindUp x k ≤ k
  | 0 => Nat.le_refl _
  | k + 1 => by
    unfold kindUp
    split
    · omega
    · have := kindUp_lt x k
      omega
theorem fill1R_text {t o : OpT} {c : UInt8} (hc : isF c) (hs : (fieldV o c).isSome = true) : fill1R t c (fieldT o c) = setF t o c := by
  obtain ⟨x, hx⟩ := Option.isSome_iff_exists.1 hs
  have hf : fieldT o c = x := by unfold fieldT; rw [hx]; rfl
  rw [hf]
  rcases hc with rfl | rfl | rfl | rfl
  · obtain ⟨h0, h1, rfl⟩ := num_some (x := o.a) (by simpa [fieldV] using hx)
    have := numR_digits 1099511627776 (by decide) o.a.toNat (by omega)
    have e : numR 1099511627776 (decDigits o.a.toNat) = o.a := by
      have e2 : ((1099511627776 : Nat) : Int) = 1099511627776 := rfl
      rw [e2] at this
      rw [this]
      omega
    simp [fill1R, setF, e]
  · obtain ⟨h0, h1, rfl⟩ := num_some (x := o.b) (by simpa [fieldV] using hx)
    have := numR_digits 1099511627776 (by decide) o.b.toNat (by omega)
    have e : numR 1099511627776 (decDigits o.b.toNat) = o.b := by
      have e2 : ((1099511627776 : Nat) : Int) = 1099511627776 := rfl
      rw [e2] at this
      rw [this]
      omega
    simp [fill1R, setF, e]
  · obtain ⟨h0, h1, rfl⟩ := num_some (x := o.n) (by simpa [fieldV] using hx)
    have := numR_digits 1099511627776 (by decide) o.n.toNat (by omega)
    have e : numR 1099511627776 (decDigits o.n.toNat) = o.n := by
      have e2 : ((1099511627776 : Nat) : Int) = 1099511627776 := rfl
      rw [e2] at this
      rw [this]
      omega
    simp [fill1R, setF, e]
  · have hx' : x = hexL o.data := by
      simp [fieldV] at hx
      exact hx.2.symm
    subst hx'
    simp [fill1R, setF, unhexR_hex]
theorem fillR_text (o : OpT) (ex : List Tx) : ∀ (f : Tx) (t : OpT), (∀ c ∈ f, isF c ∧ (fieldV o c).isSome = true) → fillR t f (f.map (fieldT o) ++ ex) = fillN t o f
  | [], t, _ => by
    cases ([] : Tx).map (fieldT o) ++ ex <;> rfl
  | c :: f, t, hf => by
    have hc := hf c (List.mem_cons_self ..)
    rw [List.map_cons, List.cons_append]
    show fillR (fill1R t c (fieldT o c)) f (f.map (fieldT o) ++ ex) = fillN (setF t o c) o f
    rw [fill1R_text hc.1 hc.2]
    exact fillR_text o ex f _ fun c' hc' => hf c' (List.mem_cons_of_mem _ hc')
theorem ref_text {o : OpT} (h : textO o ≠ []) : refP (textO o) = (normO o, 0) := by
  obtain ⟨h1, h2, h3⟩ := textO_ok h
  have hw := word_facts ⟨o.kind.toNat, by omega⟩
  have hku := kindUp_word ⟨o.kind.toNat, by omega⟩ (by show 1 ≤ o.kind.toNat; omega)
  simp only at hw hku
  have hws := textO_words h
  have hk : refK (textO o) = o.kind.toNat := by
    unfold refK
    rw [hws]
    exact hku
  have hro : refO (textO o) = normO o := by
    unfold refO
    rw [hk, hws]
    simp only [List.tail_cons]
    rw [fillR_text o _ _ _ fun c hc => ⟨hw.2.2.2 c hc, h3 c hc⟩]
    unfold normO
    rw [show ((o.kind.toNat : Nat) : Int) = o.kind by omega]
  unfold refP
  rw [hro, hk, if_neg]
  rintro (e | e)
  · omega
  · exact e (norm_text h)
theorem ref_back {s : Tx} : (refP s = (refO s, 0) ∧ textO (refO s) = s ∧ s ≠ []) ∨ refP s = (zeroO, 2) := by
  unfold refP
  split
  · right; rfl
  · rename_i h
    left
    refine ⟨rfl, Classical.byContradiction fun e => h (.inr e), fun e => h (.inl ?_)⟩
    rw [e]
    exact kindUp_nil
/-- The two answers are the same. -/
theorem par_ref (s : Tx) : parP s = refP s := by
  rcases par_back (s := s) with ⟨h1, h2, h3⟩ | h1
  · have hne : textO (parO s) ≠ [] := by rw [h2]; exact h3
    have e1 := par_text hne
    have e2 := ref_text hne
    rw [h2] at e1 e2
    rw [e1, e2]
  · rcases ref_back (s := s) with ⟨h4, h5, h6⟩ | h4
    · have hne : textO (refO s) ≠ [] := by rw [h5]; exact h6
      have e1 := par_text hne
      rw [h5, h1] at e1
      have e3 : (2 : Int) = 0 := congrArg Prod.snd e1
      exact absurd e3 (by decide)
    · rw [h1, h4]
end Go.Proofs.YtpnicodjjbincaaDoor
