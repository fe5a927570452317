/- Contracts of package backoff, and of its reference. -/
import Derived.Test.YtjpibhgdeljihaaNumW
import Derived.Test.YtjpibhgdeljihaaBackP
import Derived.Test.YtjpibhgdeljihaaMem
import Derived.Test.YtjpibhgdeljihaaReg
namespace Go.Proofs.Ytjpibhgdeljihaa
open Go.RowKit
set_option linter.unusedVariables false
theorem numWhole (v : Int) (w : World) :
    Calls Try.prog 25 #[.int .i64 v] w fun e w' => e = .returned (.int .i64 (wholeZ v)) ∧ w = w' := by
  go_enter Try.func25, Try.ntmps25
  go_wp2_with (go_at_call 20; refine (numClamp _ _ _ _).mono ?_; rintro e w' ⟨rfl, rfl⟩)
  go_ret
  exact ⟨rfl, rfl⟩
theorem refHold (v : Int) (w : World) :
    Calls Try.prog 24 #[.int .i64 v] w fun e w' => e = .returned (.int .i64 (wholeZ v)) ∧ w = w' := by
  go_enter Try.func24, Try.ntmps24
  go_wp2_with (go_at_call 9; refine (refClamp _ _ _ _).mono ?_; rintro e w' ⟨rfl, rfl⟩)
  go_ret
  exact ⟨rfl, rfl⟩
theorem numAdd (a b : Int) (w : World) :
    Calls Try.prog 23 #[.int .i64 a, .int .i64 b] w fun e w' => e = .returned (.int .i64 (addZ a b)) ∧ w = w' := by
  have h1 := wholeZ_bd a
  have h2 := wholeZ_bd b
  go_enter Try.func23, Try.ntmps23
  go_wp2_with (go_at_call 25; refine (numWhole _ _).mono ?_; rintro e w' ⟨rfl, rfl⟩)
  go_ret
  exact ⟨rfl, rfl⟩
theorem refAdd (a b : Int) (w : World) :
    Calls Try.prog 22 #[.int .i64 a, .int .i64 b] w fun e w' => e = .returned (.int .i64 (addZ a b)) ∧ w = w' := by
  have h1 := wholeZ_bd a
  have h2 := wholeZ_bd b
  go_enter Try.func22, Try.ntmps22
  go_wp2_with (go_at_call 24; refine (refHold _ _).mono ?_; rintro e w' ⟨rfl, rfl⟩)
  go_ret
  exact ⟨rfl, rfl⟩
theorem delayW (base cap k : Int) (hk : k ≤ 9223372036854775807) (w : World) :
    Calls Try.prog 7 #[.int .i64 base, .int .i64 cap, .int .i64 k] w fun e w' => e = .returned (.int .i64 (delayZ base cap k)) ∧ w = w' := by
  have h1 := lim_bd base
  have h2 := lim_bd cap
  go_enter Try.func7, Try.ntmps7
  go_wp2_with (go_at_call 20; refine (numClamp _ _ _ _).mono ?_; rintro e w' ⟨rfl, rfl⟩)
  go_loop [0, 2] (fun x y => ∃ (p q : Int), 1 ≤ p ∧ p ≤ 2199023255552 ∧ q ≤ 9223372036854775807 ∧ x = .int .i64 p ∧ y = .int .i64 q ∧ Hid (dbl p (clampZ cap 1 1099511627776) q.toNat = dbl (clampZ base 1 1099511627776) (clampZ cap 1 1099511627776) k.toNat)) (fun _ y => (intOf y).toNat)
  case atStart => exact ⟨_, k, by omega, by omega, by omega, rfl, rfl, rfl⟩
  case round =>
    obtain ⟨p, q, hp1, hp2, hq, rfl, rfl, hd⟩ := hrel
    by_cases ht : 0 < q
    · by_cases hl : p < clampZ cap 1 1099511627776
      · go_wp2
        go_round
        case rel => exact ⟨2 * p, q - 1, by omega, by omega, by omega, by go_num, by go_num, by
          have := hd.out; rw [show q.toNat = (q - 1).toNat + 1 by omega, dbl_go hl] at this; exact this⟩
        case measure => simp [intOf]; omega
      · go_wp2
        all_goals
          have := hd.out
          rw [dbl_stop (by omega)] at this
          go_ret
          exact ⟨ret_int (by unfold delayZ; omega), rfl⟩
    · go_wp2
      all_goals
        have := hd.out
        rw [show q.toNat = 0 by omega] at this
        have this : p = _ := this
        go_ret
        exact ⟨ret_int (by unfold delayZ; omega), rfl⟩
theorem refDelayW (base cap k : Int) (w : World) :
    Calls Try.prog 8 #[.int .i64 base, .int .i64 cap, .int .i64 k] w fun e w' => e = .returned (.int .i64 (delayZ base cap k)) ∧ w = w' := by
  have h1 := lim_bd base
  have h2 := lim_bd cap
  have h3 := clampZ_bd k 0 100 (by omega)
  have hc : Hid (dbl (clampZ base 1 1099511627776) (clampZ cap 1 1099511627776) (clampZ k 0 100).toNat = dbl (clampZ base 1 1099511627776) (clampZ cap 1 1099511627776) k.toNat) := by
    show _ = _
    rw [show (clampZ k 0 100).toNat = min k.toNat 100 by unfold clampZ; split <;> (try split) <;> omega]
    exact dbl_cut h1.1 h2.2 _
  go_enter Try.func8, Try.ntmps8
  go_wp2_with (go_at_call 9; refine (refClamp _ _ _ _).mono ?_; rintro e w' ⟨rfl, rfl⟩)
  go_loop [0, 7] (fun x y => ∃ (p q : Int), 1 ≤ p ∧ p ≤ 2199023255552 ∧ 0 ≤ q ∧ q ≤ clampZ k 0 100 ∧ x = .int .i64 p ∧ y = .int .i64 q ∧ Hid (dbl p (clampZ cap 1 1099511627776) (clampZ k 0 100 - q).toNat = dbl (clampZ base 1 1099511627776) (clampZ cap 1 1099511627776) k.toNat)) (fun _ y => (clampZ k 0 100 - intOf y).toNat)
  case atStart => exact ⟨_, 0, by omega, by omega, by omega, by omega, rfl, rfl, by
    have := hc.out; show _ = _; rw [show (clampZ k 0 100 - 0).toNat = (clampZ k 0 100).toNat by omega]; exact this⟩
  case round =>
    obtain ⟨p, q, hp1, hp2, hq, hq2, rfl, rfl, hd⟩ := hrel
    by_cases ht : q < clampZ k 0 100
    · by_cases hl : p < clampZ cap 1 1099511627776
      · go_wp2
        go_round
        case rel => exact ⟨2 * p, q + 1, by omega, by omega, by omega, by omega, by go_num, by go_num, by
          have := hd.out; rw [show (clampZ k 0 100 - q).toNat = (clampZ k 0 100 - (q + 1)).toNat + 1 by omega, dbl_go hl] at this; exact this⟩
        case measure => simp [intOf]; omega
      · go_wp2
        all_goals
          have := hd.out
          rw [dbl_stop (by omega)] at this
          go_ret
          exact ⟨ret_int (by unfold delayZ; omega), rfl⟩
    · go_wp2
      all_goals
        have := hd.out
        rw [show (clampZ k 0 100 - q).toNat = 0 by omega] at this
        have this : p = _ := this
        go_ret
        exact ⟨ret_int (by unfold delayZ; omega), rfl⟩
/-- A timer of package backoff. -/
def Tm (w : World) (b : Nat) (base cap most at_ tries : Int) (runs : Bool) : Prop :=
  Blk w b 47 #[.int .i64 base, .int .i64 cap, .int .i64 most, .int .i64 at_, .int .i64 tries, .bool runs]
theorem if_min (k : Int) : (if 100 < k then 100 else k) = min k 100 := by split <;> omega
theorem waitW (b : Nat) (base cap most at_ tries : Int) (runs : Bool) (now k : Int) (w : World) (hk : k ≤ 9223372036854775807) (h : Tm w b base cap most at_ tries runs) :
    Calls Try.prog 21 #[.pointer (some ⟨b, 0, none⟩), .int .i64 now, .int .i64 k] w fun e w' => e = .returned (.tuple #[]) ∧ Tm w' b base cap most (addZ now (delayZ base cap k)) k runs ∧ Mod (· = b) w w' := by
  unfold Tm at h
  have hc := h.cell
  have hf := h.free
  go_enter Try.func21, Try.ntmps21
  go_wp2
  refine region_quiet_tail 14 (by kernel_rfl) (by kernel_rfl) ?_
  simp only [List.take_succ_cons, List.take_zero, List.drop_succ_cons, List.drop_zero]
  repeat (go_big_quiet_step (first | (go_at_call 7; exact quiet_eq (delayW _ _ _ (by omega) _)) | (go_at_call 23; exact quiet_eq (numAdd _ _ _))))
  refine wpQuiet_nil ?_
  intro _ hw'
  obtain ⟨nq, hw''⟩ := hw'
  subst hw''
  rw [if_min, delayZ_cut]
  go_wp2
  go_end0
  exact ⟨rfl, ((h.set 4 _).drewN nq).set 3 _, (((Mod.refl _ _).set1 4 _).drewN nq).set1 3 _⟩
theorem startW (b : Nat) (base cap most at_ tries : Int) (runs : Bool) (now : Int) (w : World) (h : Tm w b base cap most at_ tries runs) :
    Calls Try.prog 12 #[.pointer (some ⟨b, 0, none⟩), .int .i64 now] w fun e w' => e = .returned (.tuple #[]) ∧ Tm w' b base cap most (addZ now (delayZ base cap 0)) 0 true ∧ Mod (· = b) w w' := by
  unfold Tm at h
  have hc := h.cell
  have hf := h.free
  have h5 : Tm (w.setCell ⟨b, 5, none⟩ (.bool true)) b base cap most at_ tries true := h.set 5 (.bool true)
  go_enter Try.func12, Try.ntmps12
  go_wp2_with (go_at_call 21; refine (waitW _ _ _ _ _ _ _ _ _ _ (by omega) h5).mono ?_; rintro e w' ⟨rfl, h6, hm⟩)
  go_end0
  exact ⟨rfl, h6, ((Mod.refl (· = b) _).set1 5 _).trans hm (fun _ _ h => h)⟩
theorem startNone (now : Int) (w : World) :
    Calls Try.prog 12 #[.pointer none, .int .i64 now] w fun e w' => e = .returned (.tuple #[]) ∧ w = w' := by
  go_enter Try.func12, Try.ntmps12
  go_wp2
  go_end0
  exact ⟨rfl, rfl⟩
theorem heardNone (now : Int) (w : World) :
    Calls Try.prog 18 #[.pointer none, .int .i64 now] w fun e w' => e = .returned (.tuple #[]) ∧ w = w' := by
  go_enter Try.func18, Try.ntmps18
  go_wp2
  go_end0
  exact ⟨rfl, rfl⟩
theorem heardW (b : Nat) (base cap most at_ tries : Int) (runs : Bool) (now : Int) (w : World) (h : Tm w b base cap most at_ tries runs) :
    Calls Try.prog 18 #[.pointer (some ⟨b, 0, none⟩), .int .i64 now] w fun e w' => e = .returned (.tuple #[]) ∧ Tm w' b base cap most (if runs then addZ now (delayZ base cap 0) else at_) (if runs then 0 else tries) runs ∧ Mod (· = b) w w' := by
  have h' := h
  unfold Tm at h
  have hc := h.cell
  have hf := h.free
  cases runs
  · go_enter Try.func18, Try.ntmps18
    go_wp2
    go_end0
    exact ⟨rfl, h', Mod.refl _ _⟩
  · go_enter Try.func18, Try.ntmps18
    go_wp2_with (go_at_call 21; refine (waitW _ _ _ _ _ _ _ _ _ _ (by omega) h').mono ?_; rintro e w' ⟨rfl, h6, hm⟩)
    go_end0
    exact ⟨rfl, h6, hm⟩
theorem stopNone (w : World) :
    Calls Try.prog 19 #[.pointer none] w fun e w' => e = .returned (.tuple #[]) ∧ w = w' := by
  go_enter Try.func19, Try.ntmps19
  go_wp2
  go_end0
  exact ⟨rfl, rfl⟩
theorem stopW (b : Nat) (base cap most at_ tries : Int) (runs : Bool) (w : World) (h : Tm w b base cap most at_ tries runs) :
    Calls Try.prog 19 #[.pointer (some ⟨b, 0, none⟩)] w fun e w' => e = .returned (.tuple #[]) ∧ Tm w' b base cap most at_ 0 false ∧ Mod (· = b) w w' := by
  unfold Tm at h
  have hc := h.cell
  have hf := h.free
  go_enter Try.func19, Try.ntmps19
  go_wp2
  go_end0
  exact ⟨rfl, (h.set 5 _).set 4 _, ((Mod.refl _ _).set1 5 _).set1 4 _⟩
theorem atNone (w : World) :
    Calls Try.prog 13 #[.pointer none] w fun e w' => e = .returned (.tuple #[.int .i64 0, .bool false]) ∧ w = w' := by
  go_enter Try.func13, Try.ntmps13
  go_wp2
  go_ret2
  exact ⟨rfl, rfl⟩
theorem atW (b : Nat) (base cap most at_ tries : Int) (runs : Bool) (w : World) (h : Tm w b base cap most at_ tries runs) :
    Calls Try.prog 13 #[.pointer (some ⟨b, 0, none⟩)] w fun e w' => e = .returned (.tuple #[.int .i64 (if runs then at_ else 0), .bool runs]) ∧ w = w' := by
  unfold Tm at h
  have hc := h.cell
  have hf := h.free
  cases runs
  · go_enter Try.func13, Try.ntmps13
    go_wp2
    go_ret2
    exact ⟨rfl, rfl⟩
  · go_enter Try.func13, Try.ntmps13
    go_wp2
    go_ret2
    exact ⟨rfl, rfl⟩
theorem triesNone (w : World) :
    Calls Try.prog 15 #[.pointer none] w fun e w' => e = .returned (.int .i64 0) ∧ w = w' := by
  go_enter Try.func15, Try.ntmps15
  go_wp2
  go_ret
  exact ⟨rfl, rfl⟩
theorem triesW (b : Nat) (base cap most at_ tries : Int) (runs : Bool) (w : World) (h : Tm w b base cap most at_ tries runs) :
    Calls Try.prog 15 #[.pointer (some ⟨b, 0, none⟩)] w fun e w' => e = .returned (.int .i64 tries) ∧ w = w' := by
  unfold Tm at h
  have hc := h.cell
  have hf := h.free
  go_enter Try.func15, Try.ntmps15
  go_wp2
  go_ret
  exact ⟨rfl, rfl⟩
theorem firedNone (now : Int) (w : World) :
    Calls Try.prog 14 #[.pointer none, .int .i64 now] w fun e w' => e = .returned (.tuple #[.bool false, .int .i64 0]) ∧ w = w' := by
  go_enter Try.func14, Try.ntmps14
  go_wp2
  go_ret2
  exact ⟨rfl, rfl⟩
/-- Not due. -/
theorem firedNo (b : Nat) (base cap most at_ tries : Int) (runs : Bool) (now : Int) (w : World) (h : Tm w b base cap most at_ tries runs) (hn : runs = false ∨ now < at_) :
    Calls Try.prog 14 #[.pointer (some ⟨b, 0, none⟩), .int .i64 now] w fun e w' => e = .returned (.tuple #[.bool false, .int .i64 0]) ∧ w = w' := by
  unfold Tm at h
  have hc := h.cell
  have hf := h.free
  cases runs
  · clear hn
    go_enter Try.func14, Try.ntmps14
    go_wp2
    go_ret2
    exact ⟨rfl, rfl⟩
  · have hn : now < at_ := by simpa using hn
    go_enter Try.func14, Try.ntmps14
    go_wp2
    go_ret2
    exact ⟨rfl, rfl⟩
/-- Due, and there are tries left. -/
theorem firedYes (b : Nat) (base cap most at_ tries : Int) (now : Int) (w : World) (h : Tm w b base cap most at_ tries true) (hn : ¬ now < at_) (ht : 0 ≤ tries) (ht2 : tries < 9223372036854775807) (hm : most ≤ 0 ∨ tries + 1 ≤ most) :
    Calls Try.prog 14 #[.pointer (some ⟨b, 0, none⟩), .int .i64 now] w fun e w' => e = .returned (.tuple #[.bool true, .int .i64 0]) ∧ Tm w' b base cap most (addZ now (delayZ base cap (tries + 1))) (tries + 1) true ∧ Mod (· = b) w w' := by
  have h' := h
  unfold Tm at h
  have hc := h.cell
  have hf := h.free
  by_cases hm0 : 0 < most
  · have hm1 : tries + 1 ≤ most := by omega
    clear hm
    go_enter Try.func14, Try.ntmps14
    go_wp2_with (go_at_call 21; refine (waitW _ _ _ _ _ _ _ _ _ _ (by omega) h').mono ?_; rintro e w' ⟨rfl, h6, hm⟩)
    have hc := h6.cell
    have hf := h6.free
    go_quiet (fail)
    go_wp2
    go_ret2
    exact ⟨rfl, h6.drewN _, hm.drewN _⟩
  · clear hm
    have hd : decide (0 < most) = false := by simpa using hm0
    go_enter Try.func14, Try.ntmps14
    go_wp2_with (go_at_call 21; refine (waitW _ _ _ _ _ _ _ _ _ _ (by omega) h').mono ?_; rintro e w' ⟨rfl, h6, hm⟩)
    have hc := h6.cell
    have hf := h6.free
    go_quiet (fail)
    go_wp2
    go_ret2
    exact ⟨rfl, h6.drewN _, hm.drewN _⟩
/-- Due, and no try is left. -/
theorem firedLate (b : Nat) (base cap most at_ tries : Int) (now : Int) (w : World) (h : Tm w b base cap most at_ tries true) (hn : ¬ now < at_) (ht : 0 ≤ tries) (ht2 : tries < 9223372036854775807) (hm0 : 0 < most) (hm1 : most < tries + 1) :
    Calls Try.prog 14 #[.pointer (some ⟨b, 0, none⟩), .int .i64 now] w fun e w' => e = .returned (.tuple #[.bool false, .int .i64 8]) ∧ Tm w' b base cap most (addZ now (delayZ base cap (tries + 1))) (tries + 1) false ∧ Mod (· = b) w w' := by
  have h' := h
  unfold Tm at h
  have hc := h.cell
  have hf := h.free
  go_enter Try.func14, Try.ntmps14
  go_wp2_with (go_at_call 21; refine (waitW _ _ _ _ _ _ _ _ _ _ (by omega) h').mono ?_; rintro e w' ⟨rfl, h6, hm⟩)
  have hc := h6.cell
  have hf := h6.free
  go_quiet (fail)
  go_wp2
  go_ret2
  exact ⟨rfl, (h6.drewN _).set 5 _, (hm.drewN _).setCell (fun _ => rfl) _⟩
theorem newW (base cap tries : Int) (w : World) (h : 1 ≤ base ∧ base ≤ cap ∧ cap ≤ 1099511627776 ∧ 0 ≤ tries ∧ tries ≤ 1000000) :
    Calls Try.prog 11 #[.int .i64 base, .int .i64 cap, .int .i64 tries] w fun e w' => e = .returned (.tuple #[.pointer (some ⟨w.heap.size, 0, none⟩), .int .i64 0]) ∧ Tm w' w.heap.size base cap tries 0 0 false ∧ Mod (fun _ => False) w w' := by
  obtain ⟨h1, h2, h3, h4, h5⟩ := h
  go_enter Try.func11, Try.ntmps11
  go_wp2
  go_ret2
  exact ⟨rfl, Blk.new _ _ _, (Mod.refl _ _).alloc _⟩
theorem newNo (base cap tries : Int) (w : World) (h : ¬ (1 ≤ base ∧ base ≤ cap ∧ cap ≤ 1099511627776 ∧ 0 ≤ tries ∧ tries ≤ 1000000)) :
    Calls Try.prog 11 #[.int .i64 base, .int .i64 cap, .int .i64 tries] w fun e w' => e = .returned (.tuple #[.pointer none, .int .i64 1]) ∧ w = w' := by
  by_cases h1 : 1 ≤ base
  · by_cases h2 : base ≤ cap
    · by_cases h3 : cap ≤ 1099511627776
      · by_cases h4 : 0 ≤ tries
        · have h5 : 1000000 < tries := by omega
          clear h
          go_enter Try.func11, Try.ntmps11
          go_wp2
          go_ret2
          exact ⟨rfl, rfl⟩
        · clear h
          go_enter Try.func11, Try.ntmps11
          go_wp2
          go_ret2
          exact ⟨rfl, rfl⟩
      · clear h
        go_enter Try.func11, Try.ntmps11
        go_wp2
        go_ret2
        exact ⟨rfl, rfl⟩
    · clear h
      go_enter Try.func11, Try.ntmps11
      go_wp2
      go_ret2
      exact ⟨rfl, rfl⟩
  · clear h
    go_enter Try.func11, Try.ntmps11
    go_wp2
    go_ret2
    exact ⟨rfl, rfl⟩
end Go.Proofs.Ytjpibhgdeljihaa
