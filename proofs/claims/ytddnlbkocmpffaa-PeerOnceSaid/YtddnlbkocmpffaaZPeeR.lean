/- mizzenlaw20.PeerRetires: the plain part. -/
import Derived.Test.YtddnlbkocmpffaaZPeeF
import Derived.Test.YtddnlbkocmpffaaZRecT
namespace Go.Proofs.Ytddnlbkocmpffaa
set_option linter.unusedVariables false
section
variable {R : RecA}
/-- Bytes of a message that was not known, and is not whole yet. -/
theorem data_begun {i : Nat} {id : Int} {tot off : Nat} {d : List Int} (hw : winIs (R.win i).1 (R.win i).2 id = false) (hm : (tot : Int) ≤ R.maxMsg) (hk : R.tab ((i : Int), id) = none)
    (hg : R.n < R.most ∧ (¬ R.most ≤ ((R.win i).2.length : Int) + R.known i ∨ (R.win i).1 = id)) (hf : fullBuf (putBuf (newBuf tot) off d) = false) :
    R.data i id tot off d = ((R.open i id tot).setB i id (putBuf (newBuf tot) off d), freshR [] off ((off + d.length : Nat) : Int), false, 0) := by
  unfold RecA.data
  rw [if_neg (by rw [hw]; exact Bool.false_ne_true), if_neg (by omega), hk]
  dsimp only
  rw [if_pos hg]
  unfold RecA.put
  rw [if_neg (show ¬ clash (newBuf tot).bs off d (newBuf tot).l = true from Bool.false_ne_true), if_neg (by rw [hf]; exact Bool.false_ne_true)]
  rfl
/-- Bytes that make a message whole. -/
theorem data_whole {i : Nat} {id : Int} {tot off : Nat} {d : List Int} {b : BufA} (hw : winIs (R.win i).1 (R.win i).2 id = false) (hm : (tot : Int) ≤ R.maxMsg) (hk : R.tab ((i : Int), id) = some b) (hl : b.bs.length = tot)
    (hc : clash b.bs off d b.l = false) (hf : fullBuf (putBuf b off d) = true) :
    R.data i id tot off d = (R.done i id (putBuf b off d), freshR b.l off ((off + d.length : Nat) : Int), true, 0) := by
  unfold RecA.data
  rw [if_neg (by rw [hw]; exact Bool.false_ne_true), if_neg (by omega), hk]
  dsimp only
  rw [if_pos hl]
  unfold RecA.put
  rw [if_neg (by rw [hc]; exact Bool.false_ne_true), if_pos hf]
theorem data_ended {i : Nat} {id : Int} {tot off : Nat} {d : List Int} (hw : winIs (R.win i).1 (R.win i).2 id = true) : R.data i id tot off d = (R, 0, true, 0) := by
  unfold RecA.data
  rw [if_pos hw]
/-- A message may be new. -/
theorem RecOk.winNo (h : RecOk R) {i : Nat} {m id : Int} (hw : R.win i = (m, [])) (hm : m ≤ id) : winIs (R.win i).1 (R.win i).2 id = false := by
  rw [hw]; unfold winIs; simp; omega
end
def b0 : BufA := putBuf (newBuf 2) 0 [1]
/-- Which keys are known: n1 of host 1, n2 of host 2, from a number on. -/
def twoTab (a1 a2 n : Nat) (k : Int × Int) : Option BufA := if (k.1 = 1 ∧ (a1 : Int) < k.2 ∧ k.2 ≤ n) ∨ (k.1 = 2 ∧ (a2 : Int) < k.2 ∧ k.2 ≤ n) then some b0 else none
structure TwoI (n1 n2 : Nat) (R : RecA) : Prop where
  ok : RecOk R
  most_ : R.most = 50
  mx : R.maxMsg = 100
  n : R.n = ((n1 + n2 : Nat) : Int)
  kn1 : R.known 1 = n1
  kn2 : R.known 2 = n2
  w1 : R.win 1 = (1, [])
  w2 : R.win 2 = (1, [])
  out : R.out = []
  tab : ∀ k : Int × Int, R.tab k = if (k.1 = 1 ∧ 0 < k.2 ∧ k.2 ≤ n1) ∨ (k.1 = 2 ∧ 0 < k.2 ∧ k.2 ≤ n2) then some b0 else none
theorem TwoI.init : TwoI 0 0 (newRec 50 100) :=
  ⟨newRec_ok (by omega), rfl, rfl, rfl, rfl, rfl, rfl, rfl, rfl, fun k => by rw [if_neg (by omega)]; rfl⟩
theorem pair_ne {a b c d : Int} (h : ¬ (a = c ∧ b = d)) : (a, b) ≠ (c, d) := fun e => h (by injection e with e1 e2; exact ⟨e1, e2⟩)
theorem TwoI.step1 {n1 n2 : Nat} {R : RecA} (h : TwoI n1 n2 R) (h1 : n1 < 20) (h2 : n2 < 20) : ∃ R', R.data 1 ((n1 + 1 : Nat) : Int) 2 0 [1] = (R', 1, false, 0) ∧ TwoI (n1 + 1) n2 R' := by
  have hw := h.ok.winNo (i := 1) (id := ((n1 + 1 : Nat) : Int)) h.w1 (by omega)
  have hk : R.tab (((1 : Nat) : Int), ((n1 + 1 : Nat) : Int)) = none := by rw [h.tab, if_neg (by dsimp only; omega)]
  have hg : R.n < R.most ∧ (¬ R.most ≤ ((R.win 1).2.length : Int) + R.known 1 ∨ (R.win 1).1 = ((n1 + 1 : Nat) : Int)) := by
    rw [h.n, h.most_, h.w1, h.kn1]; exact ⟨by omega, .inl (by simp; omega)⟩
  have he := data_begun (tot := 2) (off := 0) (d := [1]) hw (by rw [h.mx]; omega) hk hg rfl
  have hb := h.ok.data (i := 1) (by omega) (id := ((n1 + 1 : Nat) : Int)) (by omega) (by omega) (tot := 2) (off := 0) (d := [1]) (fun x hx => by simp at hx; omega) (by simp)
  rw [he] at hb
  refine ⟨_, he, hb, h.most_, h.mx, ?_, ?_, h.kn2, h.w1, h.w2, h.out, fun k => ?_⟩
  · show R.n + 1 = _
    rw [h.n]; omega
  · show setAt R.known 1 (R.known 1 + 1) 1 = _
    rw [setAt_same, h.kn1]; omega
  · show setBuf (setBuf R.tab (((1 : Nat) : Int), ((n1 + 1 : Nat) : Int)) _) (((1 : Nat) : Int), ((n1 + 1 : Nat) : Int)) (some b0) k = _
    by_cases e : k = (((1 : Nat) : Int), ((n1 + 1 : Nat) : Int))
    · rw [e, setBuf_same, if_pos (by dsimp only; omega)]
    · rw [setBuf_ne e, setBuf_ne e, h.tab]
      obtain ⟨a, b⟩ := k
      have : ¬ (a = 1 ∧ b = ((n1 + 1 : Nat) : Int)) := fun e2 => e (by rw [e2.1, e2.2]; rfl)
      congr 1
      dsimp only
      apply propext
      omega
theorem TwoI.step2 {n1 n2 : Nat} {R : RecA} (h : TwoI n1 n2 R) (h1 : n1 ≤ 20) (h2 : n2 < 20) : ∃ R', R.data 2 ((n2 + 1 : Nat) : Int) 2 0 [1] = (R', 1, false, 0) ∧ TwoI n1 (n2 + 1) R' := by
  have hw := h.ok.winNo (i := 2) (id := ((n2 + 1 : Nat) : Int)) h.w2 (by omega)
  have hk : R.tab (((2 : Nat) : Int), ((n2 + 1 : Nat) : Int)) = none := by rw [h.tab, if_neg (by dsimp only; omega)]
  have hg : R.n < R.most ∧ (¬ R.most ≤ ((R.win 2).2.length : Int) + R.known 2 ∨ (R.win 2).1 = ((n2 + 1 : Nat) : Int)) := by
    rw [h.n, h.most_, h.w2, h.kn2]; exact ⟨by omega, .inl (by simp; omega)⟩
  have he := data_begun (tot := 2) (off := 0) (d := [1]) hw (by rw [h.mx]; omega) hk hg rfl
  have hb := h.ok.data (i := 2) (by omega) (id := ((n2 + 1 : Nat) : Int)) (by omega) (by omega) (tot := 2) (off := 0) (d := [1]) (fun x hx => by simp at hx; omega) (by simp)
  rw [he] at hb
  refine ⟨_, he, hb, h.most_, h.mx, ?_, h.kn1, ?_, h.w1, h.w2, h.out, fun k => ?_⟩
  · show R.n + 1 = _
    rw [h.n]; omega
  · show setAt R.known 2 (R.known 2 + 1) 2 = _
    rw [setAt_same, h.kn2]; omega
  · show setBuf (setBuf R.tab (((2 : Nat) : Int), ((n2 + 1 : Nat) : Int)) _) (((2 : Nat) : Int), ((n2 + 1 : Nat) : Int)) (some b0) k = _
    by_cases e : k = (((2 : Nat) : Int), ((n2 + 1 : Nat) : Int))
    · rw [e, setBuf_same, if_pos (by dsimp only; omega)]
    · rw [setBuf_ne e, setBuf_ne e, h.tab]
      obtain ⟨a, b⟩ := k
      have : ¬ (a = 2 ∧ b = ((n2 + 1 : Nat) : Int)) := fun e2 => e (by rw [e2.1, e2.2]; rfl)
      congr 1
      dsimp only
      apply propext
      omega
/-- How many numbers from 1 to k lie below. -/
def lessN (below : Int) : Nat → Nat
  | 0 => 0
  | k + 1 => lessN below k + if ((k + 1 : Nat) : Int) < below then 1 else 0
theorem lessN_eq (below : Int) (h : 0 ≤ below) : ∀ k : Nat, lessN below k = min k (below.toNat - 1)
  | 0 => by simp [lessN]
  | k + 1 => by
    rw [lessN, lessN_eq below h k]
    split <;> omega
def twoKeys (n : Nat) : List (Int × Int) := (List.range n).map (fun j : Nat => ((1 : Int), (j : Int) + 1)) ++ (List.range n).map (fun j : Nat => ((2 : Int), (j : Int) + 1))
theorem countP_all {α β : Type} {f : α → β} {p : β → Bool} {l : List α} (h : ∀ a ∈ l, p (f a) = true) : (l.map f).countP p = l.length := by
  rw [List.countP_eq_length.2 (fun b hb => by obtain ⟨a, ha, rfl⟩ := List.mem_map.1 hb; exact h a ha), List.length_map]
theorem countP_none {α β : Type} {f : α → β} {p : β → Bool} {l : List α} (h : ∀ a ∈ l, p (f a) = false) : (l.map f).countP p = 0 :=
  List.countP_eq_zero.2 fun b hb => by obtain ⟨a, ha, rfl⟩ := List.mem_map.1 hb; rw [h a ha]; exact Bool.false_ne_true
theorem twoKeys_of {n : Nat} {R : RecA} (h : TwoI n n R) : KeysOf R (twoKeys n) := by
  refine ⟨?_, fun k => ?_, ?_, fun i hi => ?_⟩
  · unfold twoKeys
    rw [List.nodup_append]
    refine ⟨?_, ?_, fun a ha b hb e => ?_⟩
    · exact List.pairwise_map.2 (List.nodup_range.imp fun h e => h (by injection e; omega))
    · exact List.pairwise_map.2 (List.nodup_range.imp fun h e => h (by injection e; omega))
    · obtain ⟨x, -, rfl⟩ := List.mem_map.1 ha
      obtain ⟨y, -, rfl⟩ := List.mem_map.1 hb
      injection e with e1
      omega
  · rw [h.tab]
    obtain ⟨a, b⟩ := k
    unfold twoKeys
    simp only [List.mem_append, List.mem_map, List.mem_range, Prod.mk.injEq]
    constructor
    · rintro (⟨j, h1, h2, h3⟩ | ⟨j, h1, h2, h3⟩)
      · rw [if_pos (.inl (by omega))]; rfl
      · rw [if_pos (.inr (by omega))]; rfl
    · intro hs
      split at hs
      · rename_i hc
        rcases hc with ⟨h1, h2, h3⟩ | ⟨h1, h2, h3⟩
        · exact .inl ⟨(b - 1).toNat, by omega, by omega, by omega⟩
        · exact .inr ⟨(b - 1).toNat, by omega, by omega, by omega⟩
      · cases hs
  · unfold twoKeys
    rw [List.length_append, List.length_map, List.length_map, List.length_range, h.n]
  · unfold twoKeys
    rw [List.countP_append]
    by_cases e1 : i = 1
    · subst e1
      rw [countP_all (fun a _ => by simp), countP_none (fun a _ => by simp), List.length_range, h.kn1]
      rfl
    · by_cases e2 : i = 2
      · subst e2
        rw [countP_none (fun a _ => by simp), countP_all (fun a _ => by simp), List.length_range, h.kn2]
        simp
      · rw [countP_none (fun a _ => by simp; omega), countP_none (fun a _ => by simp; omega)]
        have hz : R.known i = 0 := by
          obtain ⟨ks, hks⟩ := h.ok.keys
          have := hks.known i hi
          rw [← this]
          have h0 : ks.countP (fun k => decide (k.1 = (i : Int))) = 0 := List.countP_eq_zero.2 fun k hk => by
            have hs := (hks.mem k).1 hk
            rw [h.tab] at hs
            split at hs
            · rename_i hc
              simp
              omega
            · cases hs
          rw [h0]; rfl
        rw [hz]; rfl
theorem twoKeys_gone (below : Int) : ∀ n : Nat, (twoKeys n).countP (goneK 1 below) = lessN below n := fun n => by
  unfold twoKeys
  rw [List.countP_append, countP_none (f := fun j : Nat => ((2 : Int), (j : Int) + 1)) (fun a _ => by simp [goneK]), Nat.add_zero]
  induction n with
  | zero => rfl
  | succ n ih =>
    rw [List.range_succ, List.map_append, List.countP_append, ih, lessN]
    congr 1
    rw [List.map_singleton, List.countP_singleton]
    unfold goneK
    by_cases e : ((n + 1 : Nat) : Int) < below
    · rw [if_pos e, if_pos (by simp; omega)]
    · rw [if_neg e, if_neg (by simp; omega)]
/-- Behind 'Retire', and behind the rest of the first k of both hosts. -/
structure RestI (n L : Nat) (m1 : Int) (k : Nat) (R : RecA) : Prop where
  ok : RecOk R
  mx : R.maxMsg = 100
  n_ : R.n = ((n - k + (n - max k L) : Nat) : Int)
  w1 : R.win 1 = (max m1 ((k + 1 : Nat) : Int), [])
  w2 : R.win 2 = (((k + 1 : Nat) : Int), [])
  out : R.out.length = k + (max k L - L)
  tab : ∀ x : Int × Int, R.tab x = if (x.1 = 1 ∧ ((max k L : Nat) : Int) < x.2 ∧ x.2 ≤ n) ∨ (x.1 = 2 ∧ (k : Int) < x.2 ∧ x.2 ≤ n) then some b0 else none
theorem goesL_nil (m : Int) : goesL m [] = (m, []) := rfl
theorem TwoI.retire {n : Nat} {R : RecA} (h : TwoI n n R) (hn : n ≤ 20) (below : Int) (hb : 0 ≤ below) (hok : RecOk (R.retire 1 below (lessN below n))) : RestI n (lessN below n) (max 1 (min below 1152921504606846977)) 0 (R.retire 1 below (lessN below n)) := by
  have hl := lessN_eq below hb n
  refine ⟨hok, h.mx, ?_, ?_, ?_, ?_, fun x => ?_⟩
  · show R.n - _ = _
    rw [h.n]; omega
  · show setAt R.win 1 (retL (R.win 1).1 (R.win 1).2 below) 1 = _
    rw [setAt_same, h.w1]
    unfold retL
    rw [goesL_nil]
    congr 1
    omega
  · exact h.w2
  · show R.out.length = _
    rw [h.out]; simp
  · show (if goneK 1 below x = true then none else R.tab x) = _
    rw [h.tab]
    obtain ⟨a, b⟩ := x
    unfold goneK
    by_cases hg : (a = 1 ∧ b < below)
    · rw [if_pos (by simp [hg]), if_neg (by dsimp only; omega)]
    · rw [if_neg (by simp; omega)]
      congr 1
      dsimp only
      apply propext
      omega
theorem doneL_mark (m : Int) : doneL m [] m = (m + 1, []) := by
  show goesL m [m] = _
  unfold goesL
  rw [if_pos (Int.le_refl _)]
  show (max m (m + 1), ([] : List Int)) = _
  congr 1
  omega
theorem RestI.step {n L k : Nat} {m1 : Int} {R : RecA} (h : RestI n L m1 k R) (hk : k < n) (hn : n ≤ 20) (hL : L ≤ n) (hm : ∀ i : Nat, 1 ≤ i → i ≤ n → ((i : Int) < m1 ↔ i ≤ L)) :
    ∃ R1 R2 r, R.data 1 ((k + 1 : Nat) : Int) 2 1 [2] = (R1, r, true, 0) ∧ RecOk R1 ∧ R1.out.length ≤ 1000000 ∧ ((k + 1 ≤ L ∧ r = 0) ∨ (¬ k + 1 ≤ L ∧ r = 1)) ∧ R1.data 2 ((k + 1 : Nat) : Int) 2 1 [2] = (R2, 1, true, 0) ∧ RestI n L m1 (k + 1) R2 := by
  have hmk := hm (k + 1) (by omega) (by omega)
  have hstep : ∃ R1 r, R.data 1 ((k + 1 : Nat) : Int) 2 1 [2] = (R1, r, true, 0) ∧ ((k + 1 ≤ L ∧ r = 0) ∨ (¬ k + 1 ≤ L ∧ r = 1)) ∧ RecOk R1 ∧ R1.maxMsg = 100 ∧ R1.n = ((n - k + (n - max (k + 1) L) : Nat) : Int) ∧ R1.win 1 = (max m1 ((k + 2 : Nat) : Int), []) ∧ R1.win 2 = (((k + 1 : Nat) : Int), []) ∧ R1.out.length = k + (max (k + 1) L - L) ∧
      ∀ x : Int × Int, R1.tab x = if (x.1 = 1 ∧ ((max (k + 1) L : Nat) : Int) < x.2 ∧ x.2 ≤ n) ∨ (x.1 = 2 ∧ (k : Int) < x.2 ∧ x.2 ≤ n) then some b0 else none := by
    by_cases hkL : k + 1 ≤ L
    · refine ⟨R, 0, data_ended ?_, .inl ⟨hkL, rfl⟩, h.ok, h.mx, ?_, ?_, h.w2, ?_, fun x => ?_⟩
      · rw [h.w1]
        have := hmk.2 hkL
        unfold winIs
        simp
        omega
      · rw [h.n_]; omega
      · rw [h.w1]
        have := hmk.2 hkL
        congr 1
        by_cases hL2 : k + 2 ≤ n
        · have := hm (k + 2) (by omega) hL2
          omega
        · omega
      · rw [h.out]; omega
      · rw [h.tab, show max k L = max (k + 1) L by omega]
    · have hmn : ¬ ((k + 1 : Nat) : Int) < m1 := fun e => hkL (hmk.1 e)
      have hw1 : R.win 1 = (((k + 1 : Nat) : Int), []) := by rw [h.w1]; congr 1; omega
      have hw := h.ok.winNo (i := 1) (id := ((k + 1 : Nat) : Int)) hw1 (Int.le_refl _)
      have ht : R.tab (((1 : Nat) : Int), ((k + 1 : Nat) : Int)) = some b0 := by rw [h.tab, if_pos (.inl (by dsimp only; omega))]
      have he := data_whole (tot := 2) (off := 1) (d := [2]) hw (by rw [h.mx]; omega) ht rfl rfl rfl
      have hb := h.ok.data (i := 1) (by omega) (id := ((k + 1 : Nat) : Int)) (by omega) (by omega) (tot := 2) (off := 1) (d := [2]) (fun x hx => by simp at hx; omega) (by simp)
      rw [he] at hb
      refine ⟨_, 1, he, .inr ⟨hkL, rfl⟩, hb, h.mx, ?_, ?_, ?_, ?_, fun x => ?_⟩
      · show R.n - 1 = _
        rw [h.n_]; omega
      · show setAt R.win 1 (doneL (R.win 1).1 (R.win 1).2 ((k + 1 : Nat) : Int)) 1 = _
        rw [setAt_same, hw1]
        show doneL ((k + 1 : Nat) : Int) [] ((k + 1 : Nat) : Int) = _
        rw [doneL_mark]
        congr 1
        omega
      · exact h.w2
      · show (R.out ++ [_]).length = _
        rw [List.length_append, h.out]
        simp; omega
      · show setBuf (setBuf R.tab (((1 : Nat) : Int), ((k + 1 : Nat) : Int)) _) (((1 : Nat) : Int), ((k + 1 : Nat) : Int)) none x = _
        by_cases e : x = (((1 : Nat) : Int), ((k + 1 : Nat) : Int))
        · rw [e, setBuf_same, if_neg (by dsimp only; omega)]
        · rw [setBuf_ne e, setBuf_ne e, h.tab]
          obtain ⟨a, b⟩ := x
          have : ¬ (a = 1 ∧ b = ((k + 1 : Nat) : Int)) := fun e2 => e (by rw [e2.1, e2.2]; rfl)
          congr 1
          dsimp only
          apply propext
          omega
  obtain ⟨R1, r, e1, e2, e3, e4, e5, e6, e7, e8, e9⟩ := hstep
  have hw := e3.winNo (i := 2) (id := ((k + 1 : Nat) : Int)) e7 (Int.le_refl _)
  have ht : R1.tab (((2 : Nat) : Int), ((k + 1 : Nat) : Int)) = some b0 := by rw [e9, if_pos (.inr (by dsimp only; omega))]
  have he := data_whole (tot := 2) (off := 1) (d := [2]) hw (by rw [e4]; omega) ht rfl rfl rfl
  have hb := e3.data (i := 2) (by omega) (id := ((k + 1 : Nat) : Int)) (by omega) (by omega) (tot := 2) (off := 1) (d := [2]) (fun x hx => by simp at hx; omega) (by simp)
  rw [he] at hb
  refine ⟨R1, _, r, e1, e3, by rw [e8]; omega, e2, he, hb, e4, ?_, ?_, ?_, ?_, fun x => ?_⟩
  · show R1.n - 1 = _
    rw [e5]; omega
  · exact e6
  · show setAt R1.win 2 (doneL (R1.win 2).1 (R1.win 2).2 ((k + 1 : Nat) : Int)) 2 = _
    rw [setAt_same, e7]
    show doneL ((k + 1 : Nat) : Int) [] ((k + 1 : Nat) : Int) = _
    rw [doneL_mark]
    congr 1
  · show (R1.out ++ [_]).length = _
    rw [List.length_append, e8]
    simp; omega
  · show setBuf (setBuf R1.tab (((2 : Nat) : Int), ((k + 1 : Nat) : Int)) _) (((2 : Nat) : Int), ((k + 1 : Nat) : Int)) none x = _
    by_cases e : x = (((2 : Nat) : Int), ((k + 1 : Nat) : Int))
    · rw [e, setBuf_same, if_neg (by dsimp only; omega)]
    · rw [setBuf_ne e, setBuf_ne e, e9]
      obtain ⟨a, b⟩ := x
      have : ¬ (a = 2 ∧ b = ((k + 1 : Nat) : Int)) := fun e2 => e (by rw [e2.1, e2.2]; rfl)
      congr 1
      dsimp only
      apply propext
      omega
end Go.Proofs.Ytddnlbkocmpffaa
