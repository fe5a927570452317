/- What always holds, behind 'Retire' (plain). -/
import Derived.Test.YtddnlbkocmpffaaZRecR
namespace Go.Proofs.Ytddnlbkocmpffaa
set_option linter.unusedVariables false
section
variable {R : RecA}
theorem countP_not {α : Type} {p : α → Bool} : ∀ l : List α, (l.filter fun x => !p x).length + l.countP p = l.length
  | [] => rfl
  | x :: xs => by
    have := countP_not (p := p) xs
    by_cases h : p x = true
    · rw [List.filter_cons_of_neg (by simp [h]), List.countP_cons_of_pos h, List.length_cons]; omega
    · rw [List.filter_cons_of_pos (by simpa using h), List.countP_cons_of_neg h, List.length_cons, List.length_cons]; omega
theorem countP_filter_not {α : Type} {p q : α → Bool} : ∀ l : List α, (l.filter fun x => !p x).countP q + l.countP (fun x => p x && q x) = l.countP q
  | [] => rfl
  | x :: xs => by
    have := countP_filter_not (p := p) (q := q) xs
    by_cases h : p x = true
    · rw [List.filter_cons_of_neg (by simp [h])]
      by_cases hq : q x = true
      · rw [List.countP_cons_of_pos (by simp [h, hq]), List.countP_cons_of_pos hq]; omega
      · rw [List.countP_cons_of_neg (by simp [hq]), List.countP_cons_of_neg hq]; omega
    · rw [List.filter_cons_of_pos (by simpa using h)]
      by_cases hq : q x = true
      · rw [List.countP_cons_of_pos hq, List.countP_cons_of_neg (by simp [h]), List.countP_cons_of_pos hq]; omega
      · rw [List.countP_cons_of_neg hq, List.countP_cons_of_neg (by simp [h]), List.countP_cons_of_neg hq]; omega
theorem goneK_and (i j : Nat) (below : Int) (k : Int × Int) : (goneK i below k && decide (k.1 = (j : Int))) = if j = i then goneK i below k else false := by
  unfold goneK
  by_cases e : j = i
  · subst e
    rw [if_pos rfl, Bool.eq_iff_iff]
    simp
    omega
  · rw [if_neg e]
    simp
    omega
theorem KeysOf.retire {ks : List (Int × Int)} (h : KeysOf R ks) (i : Nat) (below : Int) : KeysOf (R.retire i below (ks.countP (goneK i below))) (ks.filter fun k => !goneK i below k) := by
  refine ⟨h.nodup.filter _, fun k => ?_, ?_, fun j hj => ?_⟩
  · show _ ↔ (if goneK i below k = true then none else R.tab k).isSome = true
    rw [List.mem_filter, h.mem]
    by_cases hg : goneK i below k = true
    · rw [if_pos hg]; simp [hg]
    · rw [if_neg hg]; simp [hg]
  · show _ = R.n - _
    have := countP_not (p := goneK i below) ks
    have := h.len
    omega
  · show _ = setAt R.known i _ j
    have h1 := countP_filter_not (p := goneK i below) (q := fun k : Int × Int => decide (k.1 = (j : Int))) ks
    have h2 := h.known j hj
    have h3 : (fun x : Int × Int => goneK i below x && decide (x.1 = (j : Int))) = if j = i then goneK i below else fun _ => false := by
      funext x
      rw [goneK_and]
      split <;> rfl
    rw [h3] at h1
    unfold setAt
    by_cases e : j = i
    · rw [if_pos e] at h1 ⊢
      rw [← e] at h1 ⊢
      omega
    · rw [if_neg e] at h1 ⊢
      rw [show ks.countP (fun _ => false) = 0 from List.countP_eq_zero.2 (fun _ _ => Bool.false_ne_true)] at h1
      omega
theorem RecOk.retire (h : RecOk R) {i : Nat} (hi : i < 8) (below : Int) {ks : List (Int × Int)} (hks : KeysOf R ks) : RecOk (R.retire i below (ks.countP (goneK i below))) := by
  have hwo := h.win i hi
  refine ⟨h.m1, h.m2, h.x0, h.x1, ⟨_, hks.retire i below⟩, fun k c hc => ?_, fun j hj => ?_, fun j hj => ?_, ?_⟩
  · change (if goneK i below k = true then none else R.tab k) = some c at hc
    by_cases hg : goneK i below k = true
    · rw [if_pos hg] at hc; cases hc
    · rw [if_neg hg] at hc
      obtain ⟨j, k1, k2, k3, k4, k5, k6, k7⟩ := h.key k c hc
      refine ⟨j, k1, k2, k3, k4, k5, k6, ?_⟩
      show winIs (setAt R.win i (retL (R.win i).1 (R.win i).2 below) j).1 (setAt R.win i (retL (R.win i).1 (R.win i).2 below) j).2 k.2 = false
      unfold setAt
      by_cases e : j = i
      · subst e
        rw [if_pos rfl, retL_is, k7]
        have : ¬ k.2 < below := fun e => hg (by unfold goneK; simp [k2, e])
        simp
        omega
      · rw [if_neg e]; exact k7
  · show WinOk (setAt R.win i _ j).1 (setAt R.win i _ j).2
    unfold setAt
    by_cases e : j = i
    · rw [if_pos e]; exact retL_ok hwo
    · rw [if_neg e]; exact h.win j hj
  · have hr := h.room j hj
    unfold RoomOk at hr ⊢
    show ((setAt R.win i _ j).2.length : Int) + setAt R.known i _ j ≤ R.most ∨ (((setAt R.win i _ j).2.length : Int) + setAt R.known i _ j ≤ R.most + 1 ∧ (if goneK i below ((j : Int), (setAt R.win i _ j).1) = true then none else R.tab ((j : Int), (setAt R.win i _ j).1)).isSome = true)
    unfold setAt
    by_cases e : j = i
    · subst e
      simp only [if_pos]
      have hle : (retL (R.win j).1 (R.win j).2 below).2.length ≤ (R.win j).2.length := goesL_len _ _
      rcases hr with hr | ⟨hr, hm⟩
      · exact .inl (by omega)
      · by_cases hb : below ≤ (R.win j).1
        · have hid : retL (R.win j).1 (R.win j).2 below = ((R.win j).1, (R.win j).2) := by
            unfold retL
            have : max (R.win j).1 (min below 1152921504606846977) = (R.win j).1 := by omega
            rw [this]
            exact goesL_id fun r hr => (hwo.beyond r hr).1
          rw [hid]
          refine .inr ⟨by dsimp only; omega, ?_⟩
          rw [if_neg (by unfold goneK; simp; omega)]
          exact hm
        · have hpos : 0 < ks.countP (goneK j below) := List.countP_pos_iff.2 ⟨((j : Int), (R.win j).1), (hks.mem _).2 hm, by unfold goneK; simp; omega⟩
          exact .inl (by omega)
    · simp only [if_neg e]
      rcases hr with hr | ⟨hr, hm⟩
      · exact .inl hr
      · refine .inr ⟨hr, ?_⟩
        rw [if_neg (by unfold goneK; simp; omega)]
        exact hm
  · show R.n - _ ≤ R.most
    have := h.cap
    omega
end
end Go.Proofs.Ytddnlbkocmpffaa
