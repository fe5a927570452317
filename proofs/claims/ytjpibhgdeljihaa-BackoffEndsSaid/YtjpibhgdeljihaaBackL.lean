/- The walks of the laws on delays. -/
import Derived.Test.YtjpibhgdeljihaaBackR
import Derived.OpenShut
namespace Go.Proofs.Ytjpibhgdeljihaa
open Go.RowKit Go.ChangeShapes Go.WideShapes
set_option linter.unusedVariables false
set_option maxHeartbeats 2000000
set_option maxRecDepth 100000
theorem walk_backoffNothing (now : Int) (w0 : (Lit.int .i64 now).wf = true) (w : World) :
    Calls Try.prog 6 #[.int .i64 now] w fun e w' => e = .returned (.bool true) ∧ Below w.heap.size w w' := by
  go_enter Try.func6, Try.ntmps6
  go_wp2_with (first
    | (go_at_call 12; refine (startNone _ _).mono ?_; rintro e w' ⟨rfl, rfl⟩)
    | (go_at_call 18; refine (heardNone _ _).mono ?_; rintro e w' ⟨rfl, rfl⟩)
    | (go_at_call 19; refine (stopNone _).mono ?_; rintro e w' ⟨rfl, rfl⟩)
    | (go_at_call 14; refine (firedNone _ _).mono ?_; rintro e w' ⟨rfl, rfl⟩)
    | (go_at_call 13; refine (atNone _).mono ?_; rintro e w' ⟨rfl, rfl⟩)
    | (go_at_call 15; refine (triesNone _).mono ?_; rintro e w' ⟨rfl, rfl⟩)
    | (go_at_call 10; refine (awakeW _).mono ?_; rintro e w1 ⟨rfl, m1⟩))
  go_ret
  exact ⟨rfl, m1.below⟩
theorem walk_backoffDelays (base : Int) (w0 : (Lit.int .i64 base).wf = true) (limit : Int) (w1 : (Lit.int .i64 limit).wf = true) (k : Int) (w2 : (Lit.int .i64 k).wf = true) (w : World) :
    Calls Try.prog 3 #[.int .i64 base, .int .i64 limit, .int .i64 k] w fun e w' => e = .returned (.bool true) ∧ Below w.heap.size w w' := by
  have hb := bounds_i64 w0
  have hl := bounds_i64 w1
  have hk := bounds_i64 w2
  clear w0 w1 w2
  have hd := delayZ_bd base limit k
  have hc := lim_bd limit
  by_cases h0 : 0 ≤ k
  · by_cases h1 : k ≤ 99
    · have hd2 := delayZ_bd base limit (k + 1)
      have hn := delayZ_next base limit k h0
      go_enter Try.func3, Try.ntmps3
      go_wp2_with (first
        | (go_at_call 7; refine (delayW _ _ _ (by omega) _).mono ?_; rintro e w' ⟨rfl, rfl⟩)
        | (go_at_call 8; refine (refDelayW _ _ _ _).mono ?_; rintro e w' ⟨rfl, rfl⟩)
        | (go_at_call 9; refine (refClamp _ _ _ _).mono ?_; rintro e w' ⟨rfl, rfl⟩)
        | (go_at_call 10; refine (awakeW _).mono ?_; rintro e w1 ⟨rfl, m1⟩))
      all_goals
        go_ret
        exact ⟨rfl, m1.below⟩
    · go_enter Try.func3, Try.ntmps3
      go_wp2_with (first
        | (go_at_call 7; refine (delayW _ _ _ (by omega) _).mono ?_; rintro e w' ⟨rfl, rfl⟩)
        | (go_at_call 8; refine (refDelayW _ _ _ _).mono ?_; rintro e w' ⟨rfl, rfl⟩)
        | (go_at_call 9; refine (refClamp _ _ _ _).mono ?_; rintro e w' ⟨rfl, rfl⟩)
        | (go_at_call 10; refine (awakeW _).mono ?_; rintro e w1 ⟨rfl, m1⟩))
      all_goals
        go_ret
        exact ⟨rfl, m1.below⟩
  · go_enter Try.func3, Try.ntmps3
    go_wp2_with (first
      | (go_at_call 7; refine (delayW _ _ _ (by omega) _).mono ?_; rintro e w' ⟨rfl, rfl⟩)
      | (go_at_call 8; refine (refDelayW _ _ _ _).mono ?_; rintro e w' ⟨rfl, rfl⟩)
      | (go_at_call 9; refine (refClamp _ _ _ _).mono ?_; rintro e w' ⟨rfl, rfl⟩)
      | (go_at_call 10; refine (awakeW _).mono ?_; rintro e w1 ⟨rfl, m1⟩))
    all_goals
      go_ret
      exact ⟨rfl, m1.below⟩
theorem walk_backoffEnds (base : Int) (w0 : (Lit.int .i64 base).wf = true) (limit : Int) (w1 : (Lit.int .i64 limit).wf = true) (tries : Int) (w2 : (Lit.int .i64 tries).wf = true) (n : Int) (w3 : (Lit.int .i64 n).wf = true) (w : World) :
    Calls Try.prog 4 #[.int .i64 base, .int .i64 limit, .int .i64 tries, .int .i64 n] w fun e w' => e = .returned (.bool true) ∧ Below w.heap.size w w' := by
  clear w0 w1 w2 w3
  by_cases hin : base < 1 ∨ 1000 < base ∨ limit < base ∨ 100000 < limit ∨ tries < 0 ∨ 30 < tries ∨ n < 0 ∨ 60 < n
  · go_enter Try.func4, Try.ntmps4
    go_wp2_with (go_at_call 10; refine (awakeW _).mono ?_; rintro e w1 ⟨rfl, m1⟩)
    all_goals
      go_ret
      exact ⟨rfl, m1.below⟩
  · have hb1 : 1 ≤ base := by omega
    have hb2 : base ≤ 1000 := by omega
    have hl1 : base ≤ limit := by omega
    have hl2 : limit ≤ 100000 := by omega
    have ht1 : 0 ≤ tries := by omega
    have ht2 : tries ≤ 30 := by omega
    have hn1 : 0 ≤ n := by omega
    have hn2 : n ≤ 60 := by omega
    have hlim : ∀ k, 1 ≤ delayZ base limit k ∧ delayZ base limit k ≤ 100000 := fun k => by
      have := delayZ_bd base limit k
      have : clampZ limit 1 1099511627776 = limit := clampZ_in (by omega) (by omega)
      omega
    have HL := Lib.hid hlim
    clear hin hlim
    go_enter Try.func4, Try.ntmps4
    go_wp2_with fail
    refine (newW _ _ _ _ (by omega)).mono ?_
    rintro e w1 ⟨rfl, h1, m1⟩
    go_wp2_with fail
    refine (startW _ _ _ _ _ _ _ _ _ h1).mono ?_
    rintro e w2 ⟨rfl, h2, m2⟩
    have m3 : Mod (fun _ => False) w w2 := m1.trans m2 (fun i hi h => by omega)
    have h0 := HL.out 0
    rw [addZ_in (by omega) (by omega) (by omega), Int.zero_add] at h2
    clear h1 m1 m2
    go_wp2_with fail
    go_loopw [11, 12] (fun x y wr => ∃ (k la at_ : Int), x = .int .i64 la ∧ y = .int .i64 k ∧ 1 ≤ k ∧ k ≤ n + 1 ∧ la < at_ ∧ 0 ≤ at_ ∧ at_ ≤ k * 100000 ∧ Tm wr w.heap.size base limit tries at_ (k - 1) true ∧ Mod (fun _ => False) w wr) (fun _ y _ => (n + 1 - intOf y).toNat)
    case atStart => exact ⟨1, 0, _, rfl, rfl, by omega, by omega, by omega, by omega, by omega, h2, m3⟩
    case round =>
      obtain ⟨k, la, at_, rfl, rfl, hk1, hk2, hla, hat0, hat, htm, hm⟩ := hrel
      clear h0 h2 m3
      by_cases hlt : k ≤ n
      · go_wp2_with fail
        refine (atW _ _ _ _ _ _ _ _ htm).mono ?_
        rintro e w4 ⟨rfl, rfl⟩
        go_wp2_with fail
        refine (firedNo _ _ _ _ _ _ _ _ _ htm (Or.inr (by omega))).mono ?_
        rintro e w4 ⟨rfl, rfl⟩
        go_wp2_with fail
        by_cases hlate : 0 < tries ∧ tries < k
        · obtain ⟨hl3, hl4⟩ := hlate
          refine (firedLate _ _ _ _ _ _ _ _ htm (by omega) (by omega) (by omega) (by omega) (by omega)).mono ?_
          rintro e w4 ⟨rfl, h4, m4⟩
          go_wp2_with fail
          refine (atW _ _ _ _ _ _ _ _ h4).mono ?_
          rintro e w5 ⟨rfl, rfl⟩
          go_wp2_with fail
          refine (awakeW _).mono ?_
          rintro e w5 ⟨rfl, m5⟩
          go_wp2
          go_ret
          exact ⟨rfl, ((hm.trans m4 (fun i hi h => by omega)).trans m5 (fun i hi h => h)).below⟩
        · refine (firedYes _ _ _ _ _ _ _ _ htm (by omega) (by omega) (by omega) (by omega)).mono ?_
          rintro e w4 ⟨rfl, h4, m4⟩
          have h5 := HL.out (k - 1 + 1)
          rw [addZ_in (by omega) (by omega) (by omega), show k - 1 + 1 = k by omega] at h4
          rw [show k - 1 + 1 = k by omega] at h5
          have m5 := hm.trans m4 (fun i hi h => by omega)
          by_cases ht0 : 0 < tries
          · have hl4 : k ≤ tries := by omega
            clear hlate
            go_wp2_with fail
            refine (triesW _ _ _ _ _ _ _ _ h4).mono ?_
            rintro e w6 ⟨rfl, rfl⟩
            go_wp2
            go_roundw
            case rel => exact ⟨k + 1, at_, at_ + delayZ base limit k, rfl, rfl, by omega, by omega, by omega, by omega, by omega, by rw [show k + 1 - 1 = k by omega]; exact h4, m5⟩
            case measure => simp [intOf]; omega
          · clear hlate
            go_wp2_with fail
            refine (triesW _ _ _ _ _ _ _ _ h4).mono ?_
            rintro e w6 ⟨rfl, rfl⟩
            go_wp2
            go_roundw
            case rel => exact ⟨k + 1, at_, at_ + delayZ base limit k, rfl, rfl, by omega, by omega, by omega, by omega, by omega, by rw [show k + 1 - 1 = k by omega]; exact h4, m5⟩
            case measure => simp [intOf]; omega
      · go_wp2_with fail
        refine (awakeW _).mono ?_
        rintro e w5 ⟨rfl, m5⟩
        go_wp2
        go_ret
        exact ⟨rfl, (hm.trans m5 (fun i hi h => h)).below⟩
end Go.Proofs.Ytjpibhgdeljihaa
