/- mizzenlaw20.PeerOnce: that the pieces are swept over (plain). -/
import Derived.Test.YtddnlbkocmpffaaZPeeO
namespace Go.Proofs.Ytddnlbkocmpffaa
set_option linter.unusedVariables false
/-- Of each message those pieces that the sweep came by are there. -/
def SweptI (T : List (List Int)) (size N i : Nat) (R : RecA) : Prop :=
  ∀ (k : Nat) (t : List Int), T[k]? = some t → ∀ j : Nat, N + (j * T.length + k) < i → size * j ≤ t.length → begunB R k ∧ ∀ x, size * j ≤ x → x < size * j + size → x < t.length → haveB R k x
theorem SweptI.early {T : List (List Int)} {size N i : Nat} (R : RecA) (h : i ≤ N) : SweptI T size N i R := fun k t _ j hj _ => by omega
theorem SweptI.next {T : List (List Int)} {size N i : Nat} {R R' : RecA} (h : SweptI T size N i R) (hb : ∀ j, begunB R j → begunB R' j) (hh : ∀ j x, haveB R j x → haveB R' j x)
    (hn : ∀ (k : Nat) (t : List Int), T[k]? = some t → N ≤ i → k = (i - N) % T.length → size * ((i - N) / T.length) ≤ t.length → begunB R' k ∧ ∀ x, size * ((i - N) / T.length) ≤ x → x < size * ((i - N) / T.length) + size → x < t.length → haveB R' k x) : SweptI T size N (i + 1) R' := by
  intro k t hk j hj hs
  have hkT := (List.getElem?_eq_some_iff.1 hk).1
  by_cases he : N + (j * T.length + k) < i
  · obtain ⟨h1, h2⟩ := h k t hk j he hs
    exact ⟨hb k h1, fun x a b c => hh k x (h2 x a b c)⟩
  · have hd : i - N = k + j * T.length := by omega
    have h1 : (i - N) % T.length = k := by rw [hd, Nat.add_mul_mod_self_right, Nat.mod_eq_of_lt hkT]
    have h2 : (i - N) / T.length = j := by rw [hd, Nat.add_mul_div_right _ _ (by omega), Nat.div_eq_of_lt hkT, Nat.zero_add]
    have := hn k t hk (by omega) h1.symm
    rw [h2] at this
    exact this hs
theorem SweptI.all {T : List (List Int)} {size N : Nat} {R : RecA} {dn : Nat → Bool} (h : SweptI T size N (N + 600) R) (ho : OnceI T R dn) (hs : 1 ≤ size) {k : Nat} {t : List Int} (hk : T[k]? = some t) (hl : t.length / size < 600 / T.length) : dn k = true := by
  have hkT := (List.getElem?_eq_some_iff.1 hk).1
  have hq : ∀ j, j ≤ t.length / size → N + (j * T.length + k) < N + 600 ∧ size * j ≤ t.length := fun j hj => by
    have h1 : size * j ≤ size * (t.length / size) := Nat.mul_le_mul_left _ hj
    have h2 := Nat.mul_div_le t.length size
    have h3 : (j + 1) * T.length ≤ (600 / T.length) * T.length := Nat.mul_le_mul_right _ (by omega)
    have h4 := Nat.div_mul_le_self 600 T.length
    have h5 : (j + 1) * T.length = j * T.length + T.length := Nat.succ_mul _ _
    exact ⟨by omega, by omega⟩
  refine ho.whole hk (h k t hk 0 (hq 0 (Nat.zero_le _)).1 (hq 0 (Nat.zero_le _)).2).1 fun x hx => ?_
  have hxj : x / size ≤ t.length / size := Nat.div_le_div_right (by omega)
  obtain ⟨h1, h2⟩ := hq (x / size) hxj
  refine (h k t hk (x / size) h1 h2).2 x (Nat.mul_div_le x size) ?_ hx
  have := Nat.lt_mul_div_succ x (show 0 < size by omega)
  rw [Nat.mul_add, Nat.mul_one] at this
  exact this
/-- Behind all: what came goes on being told as ended; nothing more is delivered. -/
structure LastI (T : List (List Int)) (R : RecA) (dn : Nat → Bool) : Prop where
  ok : RecOk R
  out : R.out = []
  mx : R.maxMsg = 1000
  each : ∀ (k : Nat) (t : List Int), T[k]? = some t → winIs (R.win 2).1 (R.win 2).2 ((k + 1 : Nat) : Int) = true ∨ (dn k = false ∧ 0 < t.length ∧ ∀ b, R.tab (2, ((k + 1 : Nat) : Int)) = some b → fullBuf b = false ∧ BufOk b)
theorem OnceI.last {T : List (List Int)} {R : RecA} {dn : Nat → Bool} (h : OnceI T R dn) (ho : R.out = []) (hz : ∀ (k : Nat) (t : List Int), T[k]? = some t → t.length = 0 → dn k = true) (below : Int) (hb : 0 ≤ below) {ks : List (Int × Int)} (hks : KeysOf R ks) : LastI T (R.retire 2 below (ks.countP (goneK 2 below))) dn := by
  refine ⟨h.ok.retire (i := 2) (by omega) below hks, ho, h.mx, fun k t hk => ?_⟩
  have hone := h.each k t hk
  have hw : winIs ((R.retire 2 below (ks.countP (goneK 2 below))).win 2).1 ((R.retire 2 below (ks.countP (goneK 2 below))).win 2).2 ((k + 1 : Nat) : Int) = (winIs (R.win 2).1 (R.win 2).2 ((k + 1 : Nat) : Int) || (decide (((k + 1 : Nat) : Int) ≠ 0) && decide (((k + 1 : Nat) : Int) < min below 1152921504606846977))) := by
    show winIs (setAt R.win 2 (retL (R.win 2).1 (R.win 2).2 below) 2).1 (setAt R.win 2 (retL (R.win 2).1 (R.win 2).2 below) 2).2 _ = _
    rw [setAt_same, retL_is]
  have htl : dn k = false → 0 < t.length := fun e => by
    rcases Nat.eq_zero_or_pos t.length with h0 | h0
    · rw [hz k t hk h0] at e; cases e
    · exact h0
  have htab : ∀ b, (R.retire 2 below (ks.countP (goneK 2 below))).tab (2, ((k + 1 : Nat) : Int)) = some b → R.tab (2, ((k + 1 : Nat) : Int)) = some b := fun b hb => by
    change (if goneK 2 below (2, ((k + 1 : Nat) : Int)) = true then none else R.tab (2, ((k + 1 : Nat) : Int))) = some b at hb
    split at hb
    · cases hb
    · exact hb
  generalize hdk : dn k = dk at *
  cases hone with
  | done h1 h2 => exact .inl (by rw [hw, h1]; rfl)
  | none h1 h2 =>
    refine .inr ⟨rfl, htl rfl, fun b hb => ?_⟩
    rw [htab b hb] at h2
    cases h2
  | some b h1 h2 h3 h4 h5 =>
    refine .inr ⟨rfl, htl rfl, fun b' hb' => ?_⟩
    have := htab b' hb'
    rw [h2] at this
    obtain rfl := Option.some.inj this
    obtain ⟨j, -, -, -, -, k5, -⟩ := h.ok.key _ _ h2
    exact ⟨h4, k5⟩
theorem LastI.step {T : List (List Int)} {R : RecA} {dn : Nat → Bool} (h : LastI T R dn) (hT : T.length ≤ 8) {k : Nat} {t : List Int} (hk : T[k]? = some t) (hl : t.length ≤ 500) :
    ∃ R' fr db e, R.data 2 ((k + 1 : Nat) : Int) t.length 0 [] = (R', fr, db, e) ∧ (dn k = true → db = true ∧ e = 0) ∧ LastI T R' dn := by
  have hkT := (List.getElem?_eq_some_iff.1 hk).1
  have hrok := h.ok.data (i := 2) (by omega) (id := ((k + 1 : Nat) : Int)) (by omega) (by omega) (tot := t.length) (off := 0) (d := []) (fun x hx => by cases hx) (by simp)
  have hwhole : winIs (R.win 2).1 (R.win 2).2 ((k + 1 : Nat) : Int) = true ∨ (dn k = false ∧ 0 < t.length ∧ ∀ b, R.tab (2, ((k + 1 : Nat) : Int)) = some b → fullBuf b = false ∧ BufOk b) := h.each k t hk
  rcases hwhole with hw | ⟨hd, hl0, hb⟩
  · exact ⟨R, 0, true, 0, data_ended hw, fun _ => ⟨rfl, rfl⟩, h⟩
  · by_cases hw : winIs (R.win 2).1 (R.win 2).2 ((k + 1 : Nat) : Int) = true
    · exact ⟨R, 0, true, 0, data_ended hw, fun _ => ⟨rfl, rfl⟩, h⟩
    · -- nothing can be whole
      have main : ∀ (R1 : RecA) (b : BufA), R1.out = R.out → R1.win = R.win → R1.maxMsg = 1000 → (∀ x : Int × Int, x ≠ (2, ((k + 1 : Nat) : Int)) → R1.tab x = R.tab x) → fullBuf b = false → BufOk b → R1.tab (2, ((k + 1 : Nat) : Int)) = some b →
          R.data 2 ((k + 1 : Nat) : Int) t.length 0 [] = R1.put 2 ((k + 1 : Nat) : Int) b 0 [] → ∃ R' fr db e, R.data 2 ((k + 1 : Nat) : Int) t.length 0 [] = (R', fr, db, e) ∧ (dn k = true → db = true ∧ e = 0) ∧ LastI T R' dn := by
        intro R1 b g1 g2 g3 g4 g5 g6 g7 g8
        rw [g8] at hrok
        unfold RecA.put at g8 hrok
        have hfb : fullBuf (putBuf b 0 []) = false := by
          by_cases e : fullBuf (putBuf b 0 []) = true
          · have h1 := (fullBuf_iff (putBuf_ok (off := 0) (d := []) g6 (fun x hx => by cases hx) (by simp))).1 e
            rw [putBuf_len (by simp)] at h1
            have : fullBuf b = true := (fullBuf_iff g6).2 fun x hx => (putBuf_nil_came g6 0 (Nat.zero_le _) x).1 (h1 x hx)
            rw [g5] at this; cases this
          · simpa using e
        by_cases hcl : clash b.bs 0 [] b.l = true
        · rw [if_pos hcl] at g8 hrok
          refine ⟨R1, _, _, _, g8, (fun e => (by rw [hd] at e; cases e)), hrok, (by rw [g1, h.out]), g3, fun j u hj => ?_⟩
          rw [g2]
          by_cases e : j = k
          · subst e
            obtain rfl : u = t := by rw [hk] at hj; exact (Option.some.inj hj).symm
            refine .inr ⟨hd, hl0, fun b' hb' => ?_⟩
            rw [g7] at hb'
            obtain rfl := Option.some.inj hb'
            exact ⟨g5, g6⟩
          · have hne : ((2 : Int), ((j + 1 : Nat) : Int)) ≠ (2, ((k + 1 : Nat) : Int)) := fun e2 => e (by injection e2; omega)
            rw [g4 _ hne]
            exact h.each j u hj
        · rw [if_neg hcl, if_neg (by rw [hfb]; exact Bool.false_ne_true)] at g8 hrok
          have htab : ∀ x : Int × Int, (R1.setB 2 ((k + 1 : Nat) : Int) (putBuf b 0 [])).tab x = if x = (2, ((k + 1 : Nat) : Int)) then some (putBuf b 0 []) else R1.tab x := fun x => by
            show setBuf R1.tab (((2 : Nat) : Int), ((k + 1 : Nat) : Int)) _ x = _
            by_cases e : x = (2, ((k + 1 : Nat) : Int))
            · rw [if_pos e, e]; exact setBuf_same
            · rw [if_neg e, setBuf_ne (show x ≠ (((2 : Nat) : Int), ((k + 1 : Nat) : Int)) from e)]
          refine ⟨_, _, _, _, g8, (fun e => (by rw [hd] at e; cases e)), hrok, (by show R1.out = []; rw [g1, h.out]), g3, fun j u hj => ?_⟩
          have hwin : (R1.setB 2 ((k + 1 : Nat) : Int) (putBuf b 0 [])).win = R.win := g2
          rw [hwin, htab]
          by_cases e : j = k
          · subst e
            obtain rfl : u = t := by rw [hk] at hj; exact (Option.some.inj hj).symm
            refine .inr ⟨hd, hl0, fun b' hb' => ?_⟩
            rw [if_pos rfl] at hb'
            obtain rfl := Option.some.inj hb'
            exact ⟨hfb, putBuf_ok g6 (fun x hx => by cases hx) (by simp)⟩
          · have hne : ((2 : Int), ((j + 1 : Nat) : Int)) ≠ (2, ((k + 1 : Nat) : Int)) := fun e2 => e (by injection e2; omega)
            rw [if_neg hne, g4 _ hne]
            exact h.each j u hj
      have stay : ∀ r : Int × Bool × Int, R.data 2 ((k + 1 : Nat) : Int) t.length 0 [] = (R, r) → ∃ R' fr db e, R.data 2 ((k + 1 : Nat) : Int) t.length 0 [] = (R', fr, db, e) ∧ (dn k = true → db = true ∧ e = 0) ∧ LastI T R' dn := fun r hr => ⟨R, r.1, r.2.1, r.2.2, hr, (fun e => (by rw [hd] at e; cases e)), h⟩
      cases hk2 : R.tab (((2 : Nat) : Int), ((k + 1 : Nat) : Int)) with
      | some b =>
        by_cases hbl : b.bs.length = t.length
        · refine main R b rfl rfl h.mx (fun _ _ => rfl) (hb b hk2).1 (hb b hk2).2 hk2 ?_
          unfold RecA.data
          rw [if_neg hw, if_neg (by rw [h.mx]; omega), hk2]
          dsimp only
          rw [if_pos hbl]
        · refine stay (0, false, 2) ?_
          unfold RecA.data
          rw [if_neg hw, if_neg (by rw [h.mx]; omega), hk2]
          dsimp only
          rw [if_neg hbl]
      | none =>
        by_cases hg : R.n < R.most ∧ (¬ R.most ≤ ((R.win 2).2.length : Int) + R.known 2 ∨ (R.win 2).1 = ((k + 1 : Nat) : Int))
        · refine main (R.open 2 ((k + 1 : Nat) : Int) t.length) (newBuf t.length) rfl rfl h.mx (fun x hx => setBuf_ne hx) ?_ (newBuf_ok (by omega)) setBuf_same ?_
          · by_cases e : fullBuf (newBuf t.length) = true
            · have := (fullBuf_iff (newBuf_ok (tot := t.length) (by omega))).1 e 0 (by simp [newBuf]; omega)
              exact absurd this (newBuf_came _ _)
            · simpa using e
          · unfold RecA.data
            rw [if_neg hw, if_neg (by rw [h.mx]; omega), hk2]
            dsimp only
            rw [if_pos hg]
        · refine stay (0, false, 4) ?_
          unfold RecA.data
          rw [if_neg hw, if_neg (by rw [h.mx]; omega), hk2]
          dsimp only
          rw [if_neg hg]
end Go.Proofs.Ytddnlbkocmpffaa
