/- The walk of BackoffPlays. -/
import Derived.Test.YtjpibhgdeljihaaBackR
import Derived.Test.YtjpibhgdeljihaaOpen
namespace Go.Proofs.Ytjpibhgdeljihaa
open Go.ChangeShapes Go.WideShapes Go.RowKit Go.Deep
set_option linter.unusedVariables false
set_option maxHeartbeats 4000000
set_option maxRecDepth 100000
theorem open_backoffPlays_l {H : Type} {enc : TypeId × Value → H} {w : World} {v : Value} {d : DataW H} {p : List MemPlace}
    (hv : Value.okWide Try.prog w .any 0 36 v) (h : DataW.Trod enc Try.prog w 0 (fun _ => true) true 36 v d p) : ∃ x : Nat × (Nat → Nat → Int), IRows w 2 v x.1 x.2 := by
  refine open_irows (e := 41) Try.underlying36 Try.underlying41 (by kernel_rfl) (by kernel_rfl) (by decide) ?_ hv h
  intro j f hj
  match j with
  | 0 => simp at hj; subst hj; exact Try.underlying3
  | 1 => simp at hj; subst hj; exact Try.underlying3
  | j + 2 => simp at hj
theorem walk_backoffPlays (w : World) (base : Int) (w0 : (Lit.int .i64 base).wf = true) (limit : Int) (w1 : (Lit.int .i64 limit).wf = true) (tries : Int) (w2 : (Lit.int .i64 tries).wf = true)
    {v : Value} (x : Nat × (Nat → Nat → Int)) (hx : IRows w 2 v x.1 x.2) :
    Calls Try.prog 5 #[.int .i64 base, .int .i64 limit, .int .i64 tries, v] w fun e w' => e = .returned (.bool true) ∧ Below w.heap.size w w' := by
  have hb := bounds_i64 w0
  have hl := bounds_i64 w1
  have ht := bounds_i64 w2
  clear w0 w1 w2
  obtain ⟨n, f⟩ := x
  obtain ⟨A, cap, rfl, hn, hx⟩ := hx
  have HX := Lib.hid hx
  clear hx
  simp only at HX hn
  by_cases h100 : 100 < n
  · go_enter Try.func5, Try.ntmps5
    go_wp2_with (go_at_call 10; refine (awakeW _).mono ?_; rintro e w1 ⟨rfl, m1⟩)
    all_goals
      go_ret
      exact ⟨rfl, m1.below⟩
  · by_cases hok : 1 ≤ base ∧ base ≤ limit ∧ limit ≤ 1099511627776 ∧ 0 ≤ tries ∧ tries ≤ 1000000
    · obtain ⟨k1, k2, k3, k4, k5⟩ := hok
      go_enter Try.func5, Try.ntmps5
      go_wp2_with fail
      refine (newW _ _ _ _ (by omega)).mono ?_
      rintro e w1 ⟨rfl, h1, m1⟩
      go_wp2_with fail
      have hmm : w.heap.size < w1.heap.size := h1.lt
      have hT0 : Tm (w1.alloc (.cells #[.int .i64 base, .int .i64 limit, .int .i64 tries, .bool false, .int .i64 0, .int .i64 0] 39)) w.heap.size base limit tries 0 0 false := Blk.old h1 _
      have hR0 : Rt (w1.alloc (.cells #[.int .i64 base, .int .i64 limit, .int .i64 tries, .bool false, .int .i64 0, .int .i64 0] 39)) w1.heap.size base limit tries false 0 0 := Blk.new _ _ _
      have hM0 : Mod (fun _ => False) w (w1.alloc (.cells #[.int .i64 base, .int .i64 limit, .int .i64 tries, .bool false, .int .i64 0, .int .i64 0] 39)) := m1.alloc _
      clear h1 m1
      obtain ⟨bT, hbT⟩ : ∃ bT, bT = w.heap.size := ⟨_, rfl⟩
      obtain ⟨bM, hbM⟩ : ∃ bM, bM = w1.heap.size := ⟨_, rfl⟩
      rw [← hbT] at hT0 hmm ⊢
      rw [← hbM] at hR0 hmm ⊢
      have hbT' : w.heap.size ≤ bT := by omega
      have hbM' : w.heap.size ≤ bM := by omega
      clear hbT hbM
      go_loopw [13] (fun x wr => ∃ (k : Nat) (r : Bool) (a1 a2 tr : Int), x = .int .i64 k ∧ k ≤ n ∧ 0 ≤ tr ∧ tr ≤ k ∧ (r = true → a1 = a2) ∧ Tm wr bT base limit tries a1 tr r ∧ Rt wr bM base limit tries r a2 tr ∧ Mod (fun _ => False) w wr) (fun x _ => n - (intOf x).toNat)
      case atStart => exact ⟨0, false, 0, 0, 0, rfl, by omega, by omega, by omega, fun h => (by cases h), hT0, hR0, hM0⟩
      case round =>
        obtain ⟨k, r, a1, a2, tr, rfl, hk, ht0, ht1, ha, hT, hR, hM⟩ := hrel
        clear hT0 hR0 hM0
        by_cases hlt : k < n
        · obtain ⟨b, off, rfl, hbl, hf⟩ := HX.out (by omega)
          obtain ⟨hc0, _, _⟩ := hf k 0 hlt (by omega)
          obtain ⟨hc1, hn1, hn2⟩ := hf k 1 hlt (by omega)
          clear hf
          generalize f k 0 = kd at *
          generalize f k 1 = now at *
          have hc0 : wr.cell? ⟨b, off + k * 2, none⟩ = some (.int .i64 kd) := (hM.below.cell hbl).trans hc0
          have hc1 : wr.cell? ⟨b, off + k * 2 + 1, none⟩ = some (.int .i64 now) := (hM.below.cell hbl).trans hc1
          have hbr : b < wr.heap.size := by have := hM.size; omega
          have nb1 : b ≠ bT := by omega
          have nb2 : b ≠ bM := by omega
          have nb3 : bM ≠ bT := by omega
          have nb4 : bT ≠ bM := by omega
          by_cases e1 : kd = 1
          · subst e1
            go_wp2_with fail
            refine (startW _ _ _ _ _ _ _ _ _ hT).mono ?_
            rintro e w4 ⟨rfl, hT3, m4⟩
            have hc1 := (m4.cell (p := ⟨b, off + k * 2 + 1, none⟩) hbr nb1).trans hc1
            have hR3 : Rt w4 bM base limit tries _ _ _ := Blk.mod m4 hR nb3
            go_wp2_with fail
            refine (refStartW _ _ _ _ _ _ _ _ _ hR3).mono ?_
            rintro e w5 ⟨rfl, hR4, m5⟩
            have hT4 : Tm w5 bT base limit tries _ _ _ := Blk.mod m5 hT3 nb4
            have hM4 : Mod (fun _ => False) w w5 := (hM.trans m4 (fun i hi h => by omega)).trans m5 (fun i hi h => by omega)
            clear hc1 hT hR hM hT3 hR3 m4 m5
            unfold Rt at hR4
            go_wp2_with fail
            refine (atW _ _ _ _ _ _ _ _ hT4).mono ?_
            rintro e w8 ⟨rfl, rfl⟩
            have hcR := hR4.cell
            go_wp2_with fail
            go_quiet ((go_at_call 15; refine (triesW _ _ _ _ _ _ _ _ (Blk.drewN hT4 _)).mono ?_; rintro e w' ⟨rfl, rfl⟩; exact ⟨rfl, _, rfl⟩))
            go_wp2
            go_roundw
            case rel => exact ⟨k + 1, _, _, _, _, by go_num, by omega, by omega, by omega, fun _ => rfl, hT4.drewN _, hR4.drewN _, hM4.drewN _⟩
            case measure => simp [intOf]; omega
          · by_cases e2 : kd = 2
            · subst e2
              clear e1
              cases r
              · clear ha
                go_wp2_with fail
                refine (firedNo _ _ _ _ _ _ _ _ _ hT (Or.inl rfl)).mono ?_
                rintro e w4 ⟨rfl, rfl⟩
                go_wp2_with fail
                refine (refFiredNo _ _ _ _ _ _ _ _ _ hR (Or.inl rfl)).mono ?_
                rintro e w4 ⟨rfl, rfl⟩
                have hT4 := hT
                have hR4 := hR
                have hM4 := hM
                unfold Rt at hR4
                go_wp2_with fail
                refine (atW _ _ _ _ _ _ _ _ hT4).mono ?_
                rintro e w8 ⟨rfl, rfl⟩
                have hcR := hR4.cell
                go_wp2_with fail
                go_quiet ((go_at_call 15; refine (triesW _ _ _ _ _ _ _ _ (Blk.drewN hT4 _)).mono ?_; rintro e w' ⟨rfl, rfl⟩; exact ⟨rfl, _, rfl⟩))
                go_wp2
                go_roundw
                case rel => exact ⟨k + 1, _, _, _, _, by go_num, by omega, by omega, by omega, fun h => (by cases h), hT4.drewN _, hR4.drewN _, hM4.drewN _⟩
                case measure => simp [intOf]; omega
              · obtain rfl : a1 = a2 := ha rfl
                clear ha
                by_cases hd : now < a1
                · skip
                  go_wp2_with fail
                  refine (firedNo _ _ _ _ _ _ _ _ _ hT (Or.inr hd)).mono ?_
                  rintro e w4 ⟨rfl, rfl⟩
                  go_wp2_with fail
                  refine (refFiredNo _ _ _ _ _ _ _ _ _ hR (Or.inr hd)).mono ?_
                  rintro e w4 ⟨rfl, rfl⟩
                  have hT4 := hT
                  have hR4 := hR
                  have hM4 := hM
                  unfold Rt at hR4
                  go_wp2_with fail
                  refine (atW _ _ _ _ _ _ _ _ hT4).mono ?_
                  rintro e w8 ⟨rfl, rfl⟩
                  have hcR := hR4.cell
                  go_wp2_with fail
                  go_quiet ((go_at_call 15; refine (triesW _ _ _ _ _ _ _ _ (Blk.drewN hT4 _)).mono ?_; rintro e w' ⟨rfl, rfl⟩; exact ⟨rfl, _, rfl⟩))
                  go_wp2
                  go_roundw
                  case rel => exact ⟨k + 1, _, _, _, _, by go_num, by omega, by omega, by omega, fun _ => rfl, hT4.drewN _, hR4.drewN _, hM4.drewN _⟩
                  case measure => simp [intOf]; omega
                · by_cases hlate : 0 < tries ∧ tries < tr + 1
                  · obtain ⟨hl1, hl2⟩ := hlate
                    go_wp2_with fail
                    refine (firedLate _ _ _ _ _ _ _ _ hT (by omega) (by omega) (by omega) hl1 hl2).mono ?_
                    rintro e w4 ⟨rfl, hT3, m4⟩
                    have hc1 := (m4.cell (p := ⟨b, off + k * 2 + 1, none⟩) hbr nb1).trans hc1
                    have hR3 : Rt w4 bM base limit tries _ _ _ := Blk.mod m4 hR nb3
                    go_wp2_with fail
                    refine (refFiredLate _ _ _ _ _ _ _ _ hR3 (by omega) (by omega) (by omega) hl1 hl2).mono ?_
                    rintro e w5 ⟨rfl, hR4, m5⟩
                    have hT4 : Tm w5 bT base limit tries _ _ _ := Blk.mod m5 hT3 nb4
                    have hM4 : Mod (fun _ => False) w w5 := (hM.trans m4 (fun i hi h => by omega)).trans m5 (fun i hi h => by omega)
                    clear hc1 hT hR hM hT3 hR3 m4 m5
                    unfold Rt at hR4
                    go_wp2_with fail
                    refine (atW _ _ _ _ _ _ _ _ hT4).mono ?_
                    rintro e w8 ⟨rfl, rfl⟩
                    have hcR := hR4.cell
                    go_wp2_with fail
                    go_quiet ((go_at_call 15; refine (triesW _ _ _ _ _ _ _ _ (Blk.drewN hT4 _)).mono ?_; rintro e w' ⟨rfl, rfl⟩; exact ⟨rfl, _, rfl⟩))
                    go_wp2
                    go_roundw
                    case rel => exact ⟨k + 1, _, _, _, _, by go_num, by omega, by omega, by omega, fun h => (by cases h), hT4.drewN _, hR4.drewN _, hM4.drewN _⟩
                    case measure => simp [intOf]; omega
                  · have hl : tries ≤ 0 ∨ tr + 1 ≤ tries := by omega
                    clear hlate
                    go_wp2_with fail
                    refine (firedYes _ _ _ _ _ _ _ _ hT (by omega) (by omega) (by omega) hl).mono ?_
                    rintro e w4 ⟨rfl, hT3, m4⟩
                    have hc1 := (m4.cell (p := ⟨b, off + k * 2 + 1, none⟩) hbr nb1).trans hc1
                    have hR3 : Rt w4 bM base limit tries _ _ _ := Blk.mod m4 hR nb3
                    go_wp2_with fail
                    refine (refFiredYes _ _ _ _ _ _ _ _ hR3 (by omega) (by omega) (by omega) hl).mono ?_
                    rintro e w5 ⟨rfl, hR4, m5⟩
                    have hT4 : Tm w5 bT base limit tries _ _ _ := Blk.mod m5 hT3 nb4
                    have hM4 : Mod (fun _ => False) w w5 := (hM.trans m4 (fun i hi h => by omega)).trans m5 (fun i hi h => by omega)
                    clear hc1 hT hR hM hT3 hR3 m4 m5
                    unfold Rt at hR4
                    go_wp2_with fail
                    refine (atW _ _ _ _ _ _ _ _ hT4).mono ?_
                    rintro e w8 ⟨rfl, rfl⟩
                    have hcR := hR4.cell
                    go_wp2_with fail
                    go_quiet ((go_at_call 15; refine (triesW _ _ _ _ _ _ _ _ (Blk.drewN hT4 _)).mono ?_; rintro e w' ⟨rfl, rfl⟩; exact ⟨rfl, _, rfl⟩))
                    go_wp2
                    go_roundw
                    case rel => exact ⟨k + 1, _, _, _, _, by go_num, by omega, by omega, by omega, fun _ => rfl, hT4.drewN _, hR4.drewN _, hM4.drewN _⟩
                    case measure => simp [intOf]; omega
            · by_cases e3 : kd = 3
              · subst e3
                clear e1 e2
                cases r
                · clear ha
                  go_wp2_with fail
                  refine (heardW _ _ _ _ _ _ _ _ _ hT).mono ?_
                  rintro e w4 ⟨rfl, hT4, m4⟩
                  have hR4 : Rt w4 bM base limit tries _ _ _ := Blk.mod m4 hR nb3
                  have hM4 : Mod (fun _ => False) w w4 := hM.trans m4 (fun i hi h => by omega)
                  unfold Rt at hR4
                  have hcR := hR4.cell
                  clear hT hR hM
                  go_wp2_with fail
                  refine (atW _ _ _ _ _ _ _ _ hT4).mono ?_
                  rintro e w8 ⟨rfl, rfl⟩
                  have hcR := hR4.cell
                  go_wp2_with fail
                  go_quiet ((go_at_call 15; refine (triesW _ _ _ _ _ _ _ _ (Blk.drewN hT4 _)).mono ?_; rintro e w' ⟨rfl, rfl⟩; exact ⟨rfl, _, rfl⟩))
                  go_wp2
                  go_roundw
                  case rel => exact ⟨k + 1, _, _, _, _, by go_num, by omega, by omega, by omega, fun h => (by cases h), hT4.drewN _, hR4.drewN _, hM4.drewN _⟩
                  case measure => simp [intOf]; omega
                · skip
                  go_wp2_with fail
                  refine (heardW _ _ _ _ _ _ _ _ _ hT).mono ?_
                  rintro e w4 ⟨rfl, hT3, m4⟩
                  have hc1 := (m4.cell (p := ⟨b, off + k * 2 + 1, none⟩) hbr nb1).trans hc1
                  have hR3 : Rt w4 bM base limit tries _ _ _ := Blk.mod m4 hR nb3
                  have hcR3 := hR3.cell
                  go_wp2_with fail
                  refine (refStartW _ _ _ _ _ _ _ _ _ hR3).mono ?_
                  rintro e w5 ⟨rfl, hR4, m5⟩
                  have hT4 : Tm w5 bT base limit tries _ _ _ := Blk.mod m5 hT3 nb4
                  have hM4 : Mod (fun _ => False) w w5 := (hM.trans m4 (fun i hi h => by omega)).trans m5 (fun i hi h => by omega)
                  clear hc1 hT hR hM hT3 hR3 m4 m5
                  unfold Rt at hR4
                  go_wp2_with fail
                  refine (atW _ _ _ _ _ _ _ _ hT4).mono ?_
                  rintro e w8 ⟨rfl, rfl⟩
                  have hcR := hR4.cell
                  go_wp2_with fail
                  go_quiet ((go_at_call 15; refine (triesW _ _ _ _ _ _ _ _ (Blk.drewN hT4 _)).mono ?_; rintro e w' ⟨rfl, rfl⟩; exact ⟨rfl, _, rfl⟩))
                  go_wp2
                  go_roundw
                  case rel => exact ⟨k + 1, _, _, _, _, by go_num, by omega, by omega, by omega, fun _ => rfl, hT4.drewN _, hR4.drewN _, hM4.drewN _⟩
                  case measure => simp [intOf]; omega
              · by_cases e4 : kd = 4
                · subst e4
                  clear e1 e2 e3
                  go_wp2_with fail
                  refine (stopW _ _ _ _ _ _ _ _ hT).mono ?_
                  rintro e w4 ⟨rfl, hT3, m4⟩
                  have hR3 : Rt w4 bM base limit tries _ _ _ := Blk.mod m4 hR nb3
                  have hcR3 := hR3.cell
                  have hfR3 := hR3.free
                  have hR4 : Rt ((w4.setCell ⟨bM, 3, none⟩ (.bool false)).setCell ⟨bM, 5, none⟩ (.int .i64 0)) bM base limit tries false _ _ := (Blk.set hR3 3 (.bool false)).set 5 (.int .i64 0)
                  have hT4 : Tm ((w4.setCell ⟨bM, 3, none⟩ (.bool false)).setCell ⟨bM, 5, none⟩ (.int .i64 0)) bT base limit tries _ _ _ := (Blk.setOther hT3 (a := ⟨bM, 3, none⟩) nb4 _).setOther (a := ⟨bM, 5, none⟩) nb4 _
                  have hM4 : Mod (fun _ => False) w ((w4.setCell ⟨bM, 3, none⟩ (.bool false)).setCell ⟨bM, 5, none⟩ (.int .i64 0)) := ((hM.trans m4 (fun i hi h => by omega)).setCell (p := ⟨bM, 3, none⟩) (fun h => by simp at h; omega) _).setCell (p := ⟨bM, 5, none⟩) (fun h => by simp at h; omega) _
                  clear hT hR hM hT3 m4 ha
                  unfold Rt at hR4
                  go_wp2_with fail
                  refine (atW _ _ _ _ _ _ _ _ hT4).mono ?_
                  rintro e w8 ⟨rfl, rfl⟩
                  have hcR := hR4.cell
                  go_wp2_with fail
                  go_quiet ((go_at_call 15; refine (triesW _ _ _ _ _ _ _ _ (Blk.drewN hT4 _)).mono ?_; rintro e w' ⟨rfl, rfl⟩; exact ⟨rfl, _, rfl⟩))
                  go_wp2
                  go_roundw
                  case rel => exact ⟨k + 1, _, _, _, _, by go_num, by omega, by omega, by omega, fun h => (by cases h), hT4.drewN _, hR4.drewN _, hM4.drewN _⟩
                  case measure => simp [intOf]; omega
                · have f1 : (kd == 1) = false := by simpa using e1
                  have f2 : (kd == 2) = false := by simpa using e2
                  have f3 : (kd == 3) = false := by simpa using e3
                  have f4 : (kd == 4) = false := by simpa using e4
                  clear e1 e2 e3 e4
                  have hT4 := hT
                  have hR4 := hR
                  have hM4 := hM
                  unfold Rt at hR4
                  cases r
                  · clear ha
                    go_wp2_with fail
                    refine (atW _ _ _ _ _ _ _ _ hT4).mono ?_
                    rintro e w8 ⟨rfl, rfl⟩
                    have hcR := hR4.cell
                    go_wp2_with fail
                    go_quiet ((go_at_call 15; refine (triesW _ _ _ _ _ _ _ _ (Blk.drewN hT4 _)).mono ?_; rintro e w' ⟨rfl, rfl⟩; exact ⟨rfl, _, rfl⟩))
                    go_wp2
                    go_roundw
                    case rel => exact ⟨k + 1, _, _, _, _, by go_num, by omega, by omega, by omega, fun h => (by cases h), hT4.drewN _, hR4.drewN _, hM4.drewN _⟩
                    case measure => simp [intOf]; omega
                  · obtain rfl : a1 = a2 := ha rfl
                    clear ha
                    go_wp2_with fail
                    refine (atW _ _ _ _ _ _ _ _ hT4).mono ?_
                    rintro e w8 ⟨rfl, rfl⟩
                    have hcR := hR4.cell
                    go_wp2_with fail
                    go_quiet ((go_at_call 15; refine (triesW _ _ _ _ _ _ _ _ (Blk.drewN hT4 _)).mono ?_; rintro e w' ⟨rfl, rfl⟩; exact ⟨rfl, _, rfl⟩))
                    go_wp2
                    go_roundw
                    case rel => exact ⟨k + 1, _, _, _, _, by go_num, by omega, by omega, by omega, fun _ => rfl, hT4.drewN _, hR4.drewN _, hM4.drewN _⟩
                    case measure => simp [intOf]; omega
        · go_wp2_with (go_at_call 10; refine (awakeW _).mono ?_; rintro e w1 ⟨rfl, m1⟩)
          go_ret
          exact ⟨rfl, (hM.trans m1 (fun i hi h => h)).below⟩
    · go_enter Try.func5, Try.ntmps5
      go_wp2_with fail
      refine (newNo _ _ _ _ hok).mono ?_
      rintro e w1 ⟨rfl, rfl⟩
      clear HX
      by_cases k1 : 1 ≤ base
      · by_cases k2 : base ≤ limit
        · by_cases k3 : limit ≤ 1099511627776
          · by_cases k4 : 0 ≤ tries
            · have k5 : 1000000 < tries := by omega
              have d5 : decide (tries ≤ 1000000) = false := by simp; omega
              clear hok
              go_wp2_with (go_at_call 10; refine (awakeW _).mono ?_; rintro e w1 ⟨rfl, m1⟩)
              all_goals
                go_ret
                exact ⟨rfl, m1.below⟩
            · clear hok
              go_wp2_with (go_at_call 10; refine (awakeW _).mono ?_; rintro e w1 ⟨rfl, m1⟩)
              all_goals
                go_ret
                exact ⟨rfl, m1.below⟩
          · clear hok
            go_wp2_with (go_at_call 10; refine (awakeW _).mono ?_; rintro e w1 ⟨rfl, m1⟩)
            all_goals
              go_ret
              exact ⟨rfl, m1.below⟩
        · clear hok
          go_wp2_with (go_at_call 10; refine (awakeW _).mono ?_; rintro e w1 ⟨rfl, m1⟩)
          all_goals
            go_ret
            exact ⟨rfl, m1.below⟩
      · clear hok
        go_wp2_with (go_at_call 10; refine (awakeW _).mono ?_; rintro e w1 ⟨rfl, m1⟩)
        all_goals
          go_ret
          exact ⟨rfl, m1.below⟩
end Go.Proofs.Ytjpibhgdeljihaa
