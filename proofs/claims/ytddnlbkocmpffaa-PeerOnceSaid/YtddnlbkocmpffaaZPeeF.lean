/- mizzenlaw20.PeerFull: the plain part. -/
import Derived.Test.YtddnlbkocmpffaaZPeeL
namespace Go.Proofs.Ytddnlbkocmpffaa
set_option linter.unusedVariables false
/-- Messages 1 to k of host 1 were begun. -/
structure FillI (most k : Nat) (R : RecA) : Prop where
  ok : RecOk R
  most_ : R.most = most
  mx : R.maxMsg = 100
  n : R.n = k
  known : R.known 1 = k
  win : R.win 1 = (1, [])
  out : R.out = []
  some_ : ∀ j : Nat, 1 ≤ j → j ≤ k → R.tab (1, (j : Int)) = some (putBuf (newBuf 2) 0 [(j : Int)])
  none_ : ∀ j : Nat, k < j → R.tab (1, (j : Int)) = none
theorem FillI.init {most : Nat} (h1 : 1 ≤ most) (h2 : most ≤ 30) : FillI most 0 (newRec most 100) :=
  ⟨newRec_ok (by omega), rfl, rfl, rfl, rfl, rfl, rfl, fun j h1 h2 => by omega, fun j _ => rfl⟩
theorem setAt_same {β : Type} {f : Nat → β} {i : Nat} {x : β} : setAt f i x i = x := if_pos rfl
theorem FillI.step {most k : Nat} {R : RecA} (h : FillI most k R) (hk : k < most) (hm : most ≤ 30) : ∃ R', R.data 1 ((k + 1 : Nat) : Int) 2 0 [((k + 1 : Nat) : Int)] = (R', 1, false, 0) ∧ FillI most (k + 1) R' := by
  have hw : winIs (R.win 1).1 (R.win 1).2 ((k + 1 : Nat) : Int) = false := by
    rw [h.win]; unfold winIs; simp; omega
  have hn := h.none_ (k + 1) (by omega)
  have hb := h.ok.data (i := 1) (by omega) (id := ((k + 1 : Nat) : Int)) (by omega) (by omega) (tot := 2) (off := 0) (d := [((k + 1 : Nat) : Int)]) (fun x hx => by simp at hx; omega) (by simp)
  have hg : R.n < R.most ∧ (¬ R.most ≤ ((R.win 1).2.length : Int) + R.known 1 ∨ (R.win 1).1 = ((k + 1 : Nat) : Int)) := by
    rw [h.n, h.most_, h.win, h.known]
    exact ⟨by omega, .inl (by simp; omega)⟩
  have he : R.data 1 ((k + 1 : Nat) : Int) 2 0 [((k + 1 : Nat) : Int)] = ((R.open 1 ((k + 1 : Nat) : Int) 2).setB 1 ((k + 1 : Nat) : Int) (putBuf (newBuf 2) 0 [((k + 1 : Nat) : Int)]), 1, false, 0) := by
    unfold RecA.data
    rw [if_neg (by rw [hw]; exact Bool.false_ne_true), if_neg (by rw [h.mx]; omega)]
    rw [show ((1 : Nat) : Int) = 1 from rfl, hn]
    dsimp only
    rw [if_pos hg]
    unfold RecA.put
    rw [if_neg (by exact Bool.false_ne_true), if_neg (by exact Bool.false_ne_true)]
    rfl
  rw [he] at hb
  refine ⟨_, he, hb, h.most_, h.mx, ?_, ?_, h.win, h.out, fun j h1 h2 => ?_, fun j h1 => ?_⟩
  · show R.n + 1 = _
    rw [h.n]; omega
  · show setAt R.known 1 (R.known 1 + 1) 1 = _
    rw [setAt_same, h.known]; omega
  · show setBuf (setBuf R.tab (((1 : Nat) : Int), _) _) (((1 : Nat) : Int), _) _ _ = _
    by_cases e : j = k + 1
    · subst e
      exact setBuf_same
    · have hne : ((1 : Int), (j : Int)) ≠ (((1 : Nat) : Int), ((k + 1 : Nat) : Int)) := fun e2 => e (by injection e2; omega)
      rw [setBuf_ne hne, setBuf_ne hne]
      exact h.some_ j h1 (by omega)
  · show setBuf (setBuf R.tab (((1 : Nat) : Int), _) _) (((1 : Nat) : Int), _) _ _ = _
    have hne : ((1 : Int), (j : Int)) ≠ (((1 : Nat) : Int), ((k + 1 : Nat) : Int)) := fun e2 => by injection e2; omega
    rw [setBuf_ne hne, setBuf_ne hne]
    exact h.none_ j (by omega)
theorem FillI.full {most : Nat} {R : RecA} (h : FillI most most R) {j : Nat} (hj : most < j) (d : List Int) : R.data 1 (j : Int) 2 0 d = (R, 0, false, 4) := by
  have hw : winIs (R.win 1).1 (R.win 1).2 (j : Int) = false := by
    rw [h.win]; unfold winIs; simp; omega
  unfold RecA.data
  rw [if_neg (by rw [hw]; exact Bool.false_ne_true), if_neg (by rw [h.mx]; omega)]
  rw [show ((1 : Nat) : Int) = 1 from rfl, h.none_ j hj]
  dsimp only
  rw [if_neg (by rw [h.n, h.most_]; omega)]
/-- Messages 1 to k of host 1 came, k + 1 to most were begun. -/
structure DrainI (most k : Nat) (R : RecA) : Prop where
  ok : RecOk R
  most_ : R.most = most
  mx : R.maxMsg = 100
  n : R.n = (most : Int) - k
  known : R.known 1 = (most : Int) - k
  win : R.win 1 = (((k + 1 : Nat) : Int), [])
  out : R.out = []
  some_ : ∀ j : Nat, k < j → j ≤ most → R.tab (1, (j : Int)) = some (putBuf (newBuf 2) 0 [(j : Int)])
  none_ : ∀ j : Nat, most < j → R.tab (1, (j : Int)) = none
theorem FillI.drain {most : Nat} {R : RecA} (h : FillI most most R) : DrainI most 0 R :=
  ⟨h.ok, h.most_, h.mx, by rw [h.n]; omega, by rw [h.known]; omega, h.win, h.out, fun j h1 h2 => h.some_ j (by omega) h2, h.none_⟩
theorem RecOk.pop {R : RecA} (h : RecOk R) (out : List (Int × Int × List Int)) : RecOk { R with out := out } :=
  ⟨h.m1, h.m2, h.x0, h.x1, (by obtain ⟨ks, hk⟩ := h.keys; exact ⟨ks, hk.of rfl rfl rfl⟩), h.key, h.win, h.room, h.cap⟩
theorem DrainI.step {most k : Nat} {R : RecA} (h : DrainI most k R) (hk : k < most) (hm : most ≤ 30) : ∃ R', R.data 1 ((k + 1 : Nat) : Int) 2 1 [7] = (R', 1, true, 0) ∧ RecOk R' ∧ R'.out = [(1, ((k + 1 : Nat) : Int), [((k + 1 : Nat) : Int), 7])] ∧ DrainI most (k + 1) { R' with out := [] } := by
  have hw : winIs (R.win 1).1 (R.win 1).2 ((k + 1 : Nat) : Int) = false := by
    rw [h.win]; unfold winIs; simp
  have hs := h.some_ (k + 1) (by omega) (by omega)
  have hb := h.ok.data (i := 1) (by omega) (id := ((k + 1 : Nat) : Int)) (by omega) (by omega) (tot := 2) (off := 1) (d := [7]) (fun x hx => by simp at hx; omega) (by simp)
  have he : R.data 1 ((k + 1 : Nat) : Int) 2 1 [7] = (R.done 1 ((k + 1 : Nat) : Int) (putBuf (putBuf (newBuf 2) 0 [((k + 1 : Nat) : Int)]) 1 [7]), 1, true, 0) := by
    unfold RecA.data
    rw [if_neg (by rw [hw]; exact Bool.false_ne_true), if_neg (by rw [h.mx]; omega)]
    rw [show ((1 : Nat) : Int) = 1 from rfl, hs]
    dsimp only
    rw [if_pos (show (putBuf (newBuf 2) 0 [((k + 1 : Nat) : Int)]).bs.length = 2 from rfl)]
    unfold RecA.put
    rw [if_neg (by exact Bool.false_ne_true), if_pos (show fullBuf (putBuf (putBuf (newBuf 2) 0 [((k + 1 : Nat) : Int)]) 1 [7]) = true from rfl)]
    rfl
  rw [he] at hb
  refine ⟨_, he, hb, ?_, hb.pop [], h.most_, h.mx, ?_, ?_, ?_, rfl, fun j h1 h2 => ?_, fun j h1 => ?_⟩
  · show R.out ++ [_] = _
    rw [h.out]; rfl
  · show R.n - 1 = _
    rw [h.n]; omega
  · show setAt R.known 1 (R.known 1 - 1) 1 = _
    rw [setAt_same, h.known]; omega
  · show setAt R.win 1 (doneL (R.win 1).1 (R.win 1).2 ((k + 1 : Nat) : Int)) 1 = _
    rw [setAt_same, h.win]
    show goesL ((k + 1 : Nat) : Int) [((k + 1 : Nat) : Int)] = _
    unfold goesL
    rw [if_pos (Int.le_refl _)]
    show (max ((k + 1 : Nat) : Int) (((k + 1 : Nat) : Int) + 1), ([] : List Int)) = _
    congr 1
    omega
  · show setBuf (setBuf R.tab (((1 : Nat) : Int), _) _) (((1 : Nat) : Int), _) none _ = _
    have hne : ((1 : Int), (j : Int)) ≠ (((1 : Nat) : Int), ((k + 1 : Nat) : Int)) := fun e2 => by injection e2; omega
    rw [setBuf_ne hne, setBuf_ne hne]
    exact h.some_ j (by omega) h2
  · show setBuf (setBuf R.tab (((1 : Nat) : Int), _) _) (((1 : Nat) : Int), _) none _ = _
    have hne : ((1 : Int), (j : Int)) ≠ (((1 : Nat) : Int), ((k + 1 : Nat) : Int)) := fun e2 => by injection e2; omega
    rw [setBuf_ne hne, setBuf_ne hne]
    exact h.none_ j h1
theorem DrainI.last {most : Nat} {R : RecA} (h : DrainI most most R) (h1 : 1 ≤ most) (hm : most ≤ 30) : ∃ R', R.data 1 ((most + 1 : Nat) : Int) 1 0 [9] = (R', 1, true, 0) ∧ R'.n = 0 ∧ R'.out.length = 1 := by
  have hw : winIs (R.win 1).1 (R.win 1).2 ((most + 1 : Nat) : Int) = false := by
    rw [h.win]; unfold winIs; simp
  have hg : R.n < R.most ∧ (¬ R.most ≤ ((R.win 1).2.length : Int) + R.known 1 ∨ (R.win 1).1 = ((most + 1 : Nat) : Int)) := by
    rw [h.n, h.most_, h.win, h.known]
    exact ⟨by omega, .inr rfl⟩
  have he : R.data 1 ((most + 1 : Nat) : Int) 1 0 [9] = ((R.open 1 ((most + 1 : Nat) : Int) 1).done 1 ((most + 1 : Nat) : Int) (putBuf (newBuf 1) 0 [9]), 1, true, 0) := by
    unfold RecA.data
    rw [if_neg (by rw [hw]; exact Bool.false_ne_true), if_neg (by rw [h.mx]; omega)]
    rw [show ((1 : Nat) : Int) = 1 from rfl, h.none_ (most + 1) (by omega)]
    dsimp only
    rw [if_pos hg]
    unfold RecA.put
    rw [if_neg (by exact Bool.false_ne_true), if_pos (show fullBuf (putBuf (newBuf 1) 0 [9]) = true from rfl)]
    rfl
  refine ⟨_, he, ?_, ?_⟩
  · show R.n + 1 - 1 = 0
    rw [h.n]; omega
  · show (R.out ++ [_]).length = 1
    rw [h.out]; rfl
end Go.Proofs.Ytddnlbkocmpffaa
