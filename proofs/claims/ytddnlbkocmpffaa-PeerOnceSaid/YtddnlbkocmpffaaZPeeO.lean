/- mizzenlaw20.PeerOnce: the plain part. -/
import Derived.Test.YtddnlbkocmpffaaZPeeR
namespace Go.Proofs.Ytddnlbkocmpffaa
set_option linter.unusedVariables false
theorem goesL_sub : ∀ (l : List Int) (m r : Int), r ∈ (goesL m l).2 → r ∈ l
  | [], m, r, h => by simp [goesL] at h
  | x :: xs, m, r, h => by
    unfold goesL at h
    split at h
    · exact List.mem_cons_of_mem _ (goesL_sub xs _ r h)
    · exact h
theorem nodup_bound : ∀ (m : Nat) (l : List Int), l.Nodup → (∀ x ∈ l, 1 ≤ x ∧ x ≤ (m : Int)) → l.length ≤ m
  | 0, l, _, h => by
    cases l with
    | nil => exact Nat.le_refl _
    | cons x xs => have := h x (List.mem_cons_self ..); omega
  | m + 1, l, hn, h => by
    by_cases hm : ((m + 1 : Nat) : Int) ∈ l
    · have := nodup_bound m (l.erase ((m + 1 : Nat) : Int)) (hn.erase _) (fun x hx => by
        have h1 := (hn.mem_erase_iff).1 hx
        have := h x h1.2
        have h2 := h1.1
        omega)
      rw [List.length_erase_of_mem hm] at this
      omega
    · have := nodup_bound m l hn (fun x hx => by
        have := h x hx
        have : x ≠ ((m + 1 : Nat) : Int) := fun e => hm (by rw [← e]; exact hx)
        omega)
      omega
/-- A message of host 2: what of it there is. -/
inductive OneI (t : List Int) (R : RecA) (k : Nat) : Bool → Prop where
  | done (h1 : winIs (R.win 2).1 (R.win 2).2 ((k + 1 : Nat) : Int) = true) (h2 : R.tab (2, ((k + 1 : Nat) : Int)) = none) : OneI t R k true
  | none (h1 : winIs (R.win 2).1 (R.win 2).2 ((k + 1 : Nat) : Int) = false) (h2 : R.tab (2, ((k + 1 : Nat) : Int)) = none) : OneI t R k false
  | some (b : BufA) (h1 : winIs (R.win 2).1 (R.win 2).2 ((k + 1 : Nat) : Int) = false) (h2 : R.tab (2, ((k + 1 : Nat) : Int)) = some b) (h3 : b.bs.length = t.length) (h4 : fullBuf b = false) (h5 : ∀ x, cameB b x → b.bs[x]? = t[x]?) : OneI t R k false
structure OnceI (T : List (List Int)) (R : RecA) (dn : Nat → Bool) : Prop where
  ok : RecOk R
  most_ : R.most = 20
  mx : R.maxMsg = 1000
  only : ∀ x : Int × Int, (R.tab x).isSome = true → x.1 = 2 ∧ 1 ≤ x.2 ∧ x.2 ≤ (T.length : Int)
  wsub : ∀ r ∈ (R.win 2).2, r ≤ (T.length : Int)
  each : ∀ (k : Nat) (t : List Int), T[k]? = some t → OneI t R k (dn k)
def haveB (R : RecA) (k x : Nat) : Prop := winIs (R.win 2).1 (R.win 2).2 ((k + 1 : Nat) : Int) = true ∨ ∃ b, R.tab (2, ((k + 1 : Nat) : Int)) = some b ∧ cameB b x
def begunB (R : RecA) (k : Nat) : Prop := winIs (R.win 2).1 (R.win 2).2 ((k + 1 : Nat) : Int) = true ∨ (R.tab (2, ((k + 1 : Nat) : Int))).isSome = true
theorem OnceI.small {T : List (List Int)} {R : RecA} {dn : Nat → Bool} (h : OnceI T R dn) (hT : T.length ≤ 8) : R.n ≤ 8 ∧ ((R.win 2).2.length : Int) + R.known 2 ≤ 16 := by
  obtain ⟨ks, hk⟩ := h.ok.keys
  have hkl : ks.length ≤ T.length := by
    have := nodup_bound T.length (ks.map (·.2)) (List.pairwise_map.2 (hk.nodup.imp_of_mem fun {a b} ha hb hne e => hne (by
      have h1 := h.only a ((hk.mem a).1 ha)
      have h2 := h.only b ((hk.mem b).1 hb)
      exact Prod.ext (by omega) e))) (fun x hx => by
      obtain ⟨a, ha, rfl⟩ := List.mem_map.1 hx
      exact (h.only a ((hk.mem a).1 ha)).2)
    rwa [List.length_map] at this
  have hw := h.ok.win 2 (by omega)
  have hwl : (R.win 2).2.length ≤ T.length := nodup_bound T.length _ (hw.rise.imp fun h e => by omega) (fun x hx => by
    have h1 := hw.beyond x hx
    have h2 := h.wsub x hx
    have h3 := hw.lo
    omega)
  have := hk.known_le (i := 2) (by omega)
  have := hk.len
  omega
theorem putBuf_nil_came {b : BufA} (h : BufOk b) (off : Nat) (ho : off ≤ b.bs.length) (x : Nat) : cameB (putBuf b off []) x ↔ cameB b x := by
  rw [putBuf_came h (by simpa using ho)]
  simp
  omega
/-- A piece comes. -/
theorem OnceI.step {T : List (List Int)} {R : RecA} {dn : Nat → Bool} (h : OnceI T R dn) (hT : T.length ≤ 8) {k : Nat} {t : List Int} (hk : T[k]? = some t) (hbt : Byt t) (hl : t.length ≤ 500) {off c : Nat} (ho : off + c ≤ t.length) :
    ∃ R' fr db dn', R.data 2 ((k + 1 : Nat) : Int) t.length off ((t.drop off).take c) = (R', fr, db, 0) ∧ RecOk R' ∧
      ((R'.out = R.out ∧ dn' = dn ∧ OnceI T R' dn) ∨ (R'.out = R.out ++ [(2, ((k + 1 : Nat) : Int), t)] ∧ dn k = false ∧ dn' = setAt dn k true ∧ OnceI T { R' with out := [] } dn')) ∧
      begunB R' k ∧ (∀ x, off ≤ x → x < off + c → haveB R' k x) ∧ (∀ j, begunB R j → begunB R' j) ∧ (∀ j x, haveB R j x → haveB R' j x) := by
  have hkT := (List.getElem?_eq_some_iff.1 hk).1
  have hdl : ((t.drop off).take c).length = c := by simp; omega
  have hdg : ∀ x, off ≤ x → x < off + c → ((t.drop off).take c)[x - off]? = t[x]? := fun x h1 h2 => by
    rw [List.getElem?_take, if_pos (by omega), List.getElem?_drop]
    congr 1; omega
  obtain ⟨d, hd⟩ : ∃ d, (t.drop off).take c = d := ⟨_, rfl⟩
  have hdb : Byt d := by rw [← hd]; exact (hbt.drop _).take _
  rw [hd] at hdl hdg ⊢
  have hod : off + d.length ≤ t.length := by omega
  have hrok := h.ok.data (i := 2) (by omega) (id := ((k + 1 : Nat) : Int)) (by omega) (by omega) (tot := t.length) (off := off) (d := d) hdb hod
  have hone := h.each k t hk
  -- behind an open
  have main : ∀ (R1 : RecA) (b : BufA), RecOk R1 → R1.most = 20 → R1.maxMsg = 1000 → R1.win = R.win → R1.out = R.out → R1.tab (2, ((k + 1 : Nat) : Int)) = some b → (∀ x : Int × Int, x ≠ (2, ((k + 1 : Nat) : Int)) → R1.tab x = R.tab x) → b.bs.length = t.length → BufOk b → (∀ x, cameB b x → b.bs[x]? = t[x]?) → dn k = false → winIs (R.win 2).1 (R.win 2).2 ((k + 1 : Nat) : Int) = false → (∀ x, haveB R k x → cameB b x) →
      R.data 2 ((k + 1 : Nat) : Int) t.length off d = R1.put 2 ((k + 1 : Nat) : Int) b off d →
      ∃ R' fr db dn', R.data 2 ((k + 1 : Nat) : Int) t.length off d = (R', fr, db, 0) ∧ RecOk R' ∧
      ((R'.out = R.out ∧ dn' = dn ∧ OnceI T R' dn) ∨ (R'.out = R.out ++ [(2, ((k + 1 : Nat) : Int), t)] ∧ dn k = false ∧ dn' = setAt dn k true ∧ OnceI T { R' with out := [] } dn')) ∧
      begunB R' k ∧ (∀ x, off ≤ x → x < off + c → haveB R' k x) ∧ (∀ j, begunB R j → begunB R' j) ∧ (∀ j x, haveB R j x → haveB R' j x) := by
    intro R1 b g1 g2 g3 g4 g5 g6 g7 g8 g9 g10 g11 g12 g13 g14
    have hcl : clash b.bs off d b.l = false := by
      rw [clash_no (tot := t.length) (by have := g9.ok; exact this) (by omega)]
      intro x h1 h2 hx
      rw [g10 x hx, hdg x h1 (by omega)]
    have hp := g9
    have hpb := putBuf_ok g9 hdb (off := off) (by omega)
    have hpl := putBuf_len (b := b) (off := off) (d := d) (by omega)
    have hpc := fun x => putBuf_came (off := off) (d := d) g9 (by omega) x
    have hpa : ∀ x, cameB (putBuf b off d) x → (putBuf b off d).bs[x]? = t[x]? := fun x hx => by
      rw [putBuf_get (by omega)]
      by_cases hx2 : off ≤ x ∧ x < off + d.length
      · rw [if_pos hx2, hdg x hx2.1 (by omega)]
      · rw [if_neg hx2]
        exact g10 x (((hpc x).1 hx).resolve_left hx2)
    rw [g14] at hrok
    unfold RecA.put at hrok g14
    rw [if_neg (by rw [hcl]; exact Bool.false_ne_true)] at hrok g14
    by_cases hf : fullBuf (putBuf b off d) = true
    · rw [if_pos hf] at hrok g14
      have hbs : (putBuf b off d).bs = t := by
        apply List.ext_getElem?
        intro x
        by_cases hx : x < t.length
        · exact hpa x ((fullBuf_iff hpb).1 hf x (by omega))
        · rw [List.getElem?_eq_none (by omega), List.getElem?_eq_none (by omega)]
      have hwin : (R1.done 2 ((k + 1 : Nat) : Int) (putBuf b off d)).win 2 = doneL (R.win 2).1 (R.win 2).2 ((k + 1 : Nat) : Int) := by
        show setAt R1.win 2 (doneL (R1.win 2).1 (R1.win 2).2 ((k + 1 : Nat) : Int)) 2 = _
        rw [setAt_same, g4]
      have htab : ∀ x : Int × Int, (R1.done 2 ((k + 1 : Nat) : Int) (putBuf b off d)).tab x = if x = (2, ((k + 1 : Nat) : Int)) then none else R.tab x := fun x => by
        show setBuf (setBuf R1.tab (((2 : Nat) : Int), ((k + 1 : Nat) : Int)) _) (((2 : Nat) : Int), ((k + 1 : Nat) : Int)) none x = _
        by_cases e : x = (2, ((k + 1 : Nat) : Int))
        · rw [if_pos e, e]; exact setBuf_same
        · rw [if_neg e, setBuf_ne (show x ≠ (((2 : Nat) : Int), ((k + 1 : Nat) : Int)) from e), setBuf_ne (show x ≠ (((2 : Nat) : Int), ((k + 1 : Nat) : Int)) from e), g7 x e]
      have hmem := (winIs_false (by omega) g12).1
      have hisd : ∀ x : Int, winIs ((R1.done 2 ((k + 1 : Nat) : Int) (putBuf b off d)).win 2).1 ((R1.done 2 ((k + 1 : Nat) : Int) (putBuf b off d)).win 2).2 x = (winIs (R.win 2).1 (R.win 2).2 x || decide (x = ((k + 1 : Nat) : Int))) := fun x => by
        rw [hwin, doneL_is _ _ _ _ (by omega)]
      refine ⟨_, _, _, setAt dn k true, g14, hrok, .inr ⟨?_, g11, rfl, hrok.pop [], g2, g3, fun x hx => ?_, fun r hr => ?_, fun j u hj => ?_⟩, .inl ?_, fun x _ _ => .inl ?_, fun j hj => ?_, fun j x hx => ?_⟩
      · show R1.out ++ [_] = _
        rw [g5, hbs]; rfl
      · have hx' : ((R1.done 2 ((k + 1 : Nat) : Int) (putBuf b off d)).tab x).isSome = true := hx
        rw [htab] at hx'
        split at hx'
        · cases hx'
        · exact h.only x hx'
      · have hr' : r ∈ ((R1.done 2 ((k + 1 : Nat) : Int) (putBuf b off d)).win 2).2 := hr
        rw [hwin] at hr'
        rcases (putIn_mem _ _ _).1 (goesL_sub _ _ _ hr') with rfl | hr'
        · omega
        · exact h.wsub r hr'
      · have htj : ({ R1.done 2 ((k + 1 : Nat) : Int) (putBuf b off d) with out := [] } : RecA).tab = (R1.done 2 ((k + 1 : Nat) : Int) (putBuf b off d)).tab := rfl
        by_cases e : j = k
        · subst e
          rw [show setAt dn j true j = true from setAt_same]
          refine .done ?_ ?_
          · show winIs ((R1.done 2 ((j + 1 : Nat) : Int) (putBuf b off d)).win 2).1 ((R1.done 2 ((j + 1 : Nat) : Int) (putBuf b off d)).win 2).2 _ = true
            rw [hisd]; simp
          · show (R1.done 2 ((j + 1 : Nat) : Int) (putBuf b off d)).tab _ = none
            rw [htab, if_pos rfl]
        · rw [show setAt dn k true j = dn j from if_neg e]
          have hne : ((2 : Int), ((j + 1 : Nat) : Int)) ≠ (2, ((k + 1 : Nat) : Int)) := fun e2 => e (by injection e2; omega)
          have hwj : winIs ((R1.done 2 ((k + 1 : Nat) : Int) (putBuf b off d)).win 2).1 ((R1.done 2 ((k + 1 : Nat) : Int) (putBuf b off d)).win 2).2 ((j + 1 : Nat) : Int) = winIs (R.win 2).1 (R.win 2).2 ((j + 1 : Nat) : Int) := by
            rw [hisd]
            have : decide (((j + 1 : Nat) : Int) = ((k + 1 : Nat) : Int)) = false := by simp; omega
            rw [this, Bool.or_false]
          have htj2 : (R1.done 2 ((k + 1 : Nat) : Int) (putBuf b off d)).tab (2, ((j + 1 : Nat) : Int)) = R.tab (2, ((j + 1 : Nat) : Int)) := by rw [htab, if_neg hne]
          have hx := h.each j u hj
          generalize dn j = dj at *
          cases hx with
          | done h1 h2 => exact .done (hwj.trans h1) (htj2.trans h2)
          | none h1 h2 => exact .none (hwj.trans h1) (htj2.trans h2)
          | some b' h1 h2 h3 h4 h5 => exact .some b' (hwj.trans h1) (htj2.trans h2) h3 h4 h5
      · rw [hisd]; simp
      · rw [hisd]; simp
      · rcases hj with hj | hj
        · exact .inl (by rw [hisd, hj]; rfl)
        · by_cases e : ((2 : Int), ((j + 1 : Nat) : Int)) = (2, ((k + 1 : Nat) : Int))
          · have : ((j + 1 : Nat) : Int) = ((k + 1 : Nat) : Int) := by injection e
            exact .inl (by rw [hisd, this]; simp)
          · exact .inr (by rw [htab, if_neg e]; exact hj)
      · rcases hx with hx | ⟨b', hb', hx⟩
        · exact .inl (by rw [hisd, hx]; rfl)
        · by_cases e : ((2 : Int), ((j + 1 : Nat) : Int)) = (2, ((k + 1 : Nat) : Int))
          · have : ((j + 1 : Nat) : Int) = ((k + 1 : Nat) : Int) := by injection e
            exact .inl (by rw [hisd, this]; simp)
          · exact .inr ⟨b', by rw [htab, if_neg e]; exact hb', hx⟩
    · rw [if_neg hf] at hrok g14
      have hf' : fullBuf (putBuf b off d) = false := by simpa using hf
      have htab : ∀ x : Int × Int, (R1.setB 2 ((k + 1 : Nat) : Int) (putBuf b off d)).tab x = if x = (2, ((k + 1 : Nat) : Int)) then some (putBuf b off d) else R.tab x := fun x => by
        show setBuf R1.tab (((2 : Nat) : Int), ((k + 1 : Nat) : Int)) _ x = _
        by_cases e : x = (2, ((k + 1 : Nat) : Int))
        · rw [if_pos e, e]; exact setBuf_same
        · rw [if_neg e, setBuf_ne (show x ≠ (((2 : Nat) : Int), ((k + 1 : Nat) : Int)) from e), g7 x e]
      have hwin : (R1.setB 2 ((k + 1 : Nat) : Int) (putBuf b off d)).win 2 = R.win 2 := by
        show R1.win 2 = _
        rw [g4]
      refine ⟨_, _, _, dn, g14, hrok, .inl ⟨g5, rfl, hrok, g2, g3, fun x hx => ?_, fun r hr => h.wsub r (by rw [hwin] at hr; exact hr), fun j u hj => ?_⟩, .inr (by rw [htab, if_pos rfl]; rfl), fun x h1 h2 => .inr ⟨_, by rw [htab, if_pos rfl], (hpc x).2 (.inl ⟨h1, by omega⟩)⟩, fun j hj => ?_, fun j x hx => ?_⟩
      · rw [htab] at hx
        split at hx
        · rename_i e
          rw [e]
          exact ⟨rfl, by show (1 : Int) ≤ ((k + 1 : Nat) : Int); omega, by show ((k + 1 : Nat) : Int) ≤ _; omega⟩
        · exact h.only x hx
      · by_cases e : j = k
        · subst e
          obtain rfl : u = t := by rw [hk] at hj; exact (Option.some.inj hj).symm
          rw [g11]
          exact .some (putBuf b off d) (by rw [hwin]; exact g12) (by rw [htab, if_pos rfl]) (by rw [hpl, g8]) hf' hpa
        · have hne : ((2 : Int), ((j + 1 : Nat) : Int)) ≠ (2, ((k + 1 : Nat) : Int)) := fun e2 => e (by injection e2; omega)
          have htj2 : (R1.setB 2 ((k + 1 : Nat) : Int) (putBuf b off d)).tab (2, ((j + 1 : Nat) : Int)) = R.tab (2, ((j + 1 : Nat) : Int)) := by rw [htab, if_neg hne]
          have hx := h.each j u hj
          generalize dn j = dj at *
          cases hx with
          | done h1 h2 => exact .done (by rw [hwin]; exact h1) (htj2.trans h2)
          | none h1 h2 => exact .none (by rw [hwin]; exact h1) (htj2.trans h2)
          | some b' h1 h2 h3 h4 h5 => exact .some b' (by rw [hwin]; exact h1) (htj2.trans h2) h3 h4 h5
      · rcases hj with hj | hj
        · exact .inl (by rw [hwin]; exact hj)
        · refine .inr ?_
          rw [htab]
          split
          · rfl
          · exact hj
      · rcases hx with hx | ⟨b', hb', hx⟩
        · exact .inl (by rw [hwin]; exact hx)
        · by_cases e : ((2 : Int), ((j + 1 : Nat) : Int)) = (2, ((k + 1 : Nat) : Int))
          · have ejk : j = k := by injection e; omega
            subst ejk
            exact .inr ⟨_, by rw [htab, if_pos rfl], (hpc x).2 (.inr (g13 x (.inr ⟨b', hb', hx⟩)))⟩
          · exact .inr ⟨b', by rw [htab, if_neg e]; exact hb', hx⟩
  generalize hdk : dn k = dk at *
  cases hone with
  | done h1 h2 =>
    have he := data_ended (R := R) (i := 2) (id := ((k + 1 : Nat) : Int)) (tot := t.length) (off := off) (d := d) h1
    exact ⟨R, 0, true, dn, he, h.ok, .inl ⟨rfl, rfl, h⟩, .inl h1, fun x _ _ => .inl h1, fun _ hj => hj, fun _ _ hx => hx⟩
  | none h1 h2 =>
    have hs := h.small hT
    have hg : R.n < R.most ∧ (¬ R.most ≤ ((R.win 2).2.length : Int) + R.known 2 ∨ (R.win 2).1 = ((k + 1 : Nat) : Int)) := by
      rw [h.most_]; omega
    have ho' := h.ok.open (i := 2) (by omega) (id := ((k + 1 : Nat) : Int)) (by omega) (by omega) (tot := t.length) (by rw [h.mx]; omega) h2 h1 hg
    refine main (R.open 2 ((k + 1 : Nat) : Int) t.length) (newBuf t.length) ho' h.most_ h.mx rfl rfl setBuf_same (fun x hx => setBuf_ne hx) (by simp [newBuf]) (newBuf_ok (by omega)) (fun x hx => absurd hx (newBuf_came _ _)) rfl h1 (fun x hx => ?_) ?_
    · rcases hx with hx | ⟨b', hb', -⟩
      · rw [h1] at hx; cases hx
      · rw [h2] at hb'; cases hb'
    · unfold RecA.data
      rw [if_neg (by rw [h1]; exact Bool.false_ne_true), if_neg (by rw [h.mx]; omega), show ((2 : Nat) : Int) = 2 from rfl, h2]
      dsimp only
      rw [if_pos hg]
  | some b h1 h2 h3 h4 h5 =>
    have hbo : BufOk b := by
      obtain ⟨j, -, -, -, -, k5, -⟩ := h.ok.key _ _ h2
      exact k5
    refine main R b h.ok h.most_ h.mx rfl rfl h2 (fun x hx => rfl) h3 hbo h5 rfl h1 (fun x hx => ?_) ?_
    · rcases hx with hx | ⟨b', hb', hx⟩
      · rw [h1] at hx; cases hx
      · rw [h2] at hb'
        obtain rfl := Option.some.inj hb'
        exact hx
    · unfold RecA.data
      rw [if_neg (by rw [h1]; exact Bool.false_ne_true), if_neg (by rw [h.mx]; omega), show ((2 : Nat) : Int) = 2 from rfl, h2]
      dsimp only
      rw [if_pos h3]
/-- All of it came: it is done. -/
theorem OnceI.whole {T : List (List Int)} {R : RecA} {dn : Nat → Bool} (h : OnceI T R dn) {k : Nat} {t : List Int} (hk : T[k]? = some t) (hb : begunB R k) (hx : ∀ x, x < t.length → haveB R k x) : dn k = true := by
  have hone := h.each k t hk
  generalize dn k = dk at *
  cases hone with
  | done h1 h2 => rfl
  | none h1 h2 =>
    rcases hb with hb | hb
    · rw [h1] at hb; cases hb
    · rw [h2] at hb; cases hb
  | some b h1 h2 h3 h4 h5 =>
    have hbo : BufOk b := by
      obtain ⟨j, -, -, -, -, k5, -⟩ := h.ok.key _ _ h2
      exact k5
    have : fullBuf b = true := (fullBuf_iff hbo).2 fun x hx2 => by
      rcases hx x (by omega) with hx | ⟨b', hb', hx⟩
      · rw [h1] at hx; cases hx
      · rw [h2] at hb'
        obtain rfl := Option.some.inj hb'
        exact hx
    rw [h4] at this
    cases this
end Go.Proofs.Ytddnlbkocmpffaa
