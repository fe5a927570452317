/- Contracts of credit's New and Update. -/
import Derived.Test.YtigkndbkaagboaaGreatDoorRatU
namespace Go.Proofs.YtigkndbkaagboaaGreatDoor
open Go.RowKit
set_option linter.unusedVariables false
set_option maxHeartbeats 4000000
set_option maxRecDepth 100000
theorem newRateW (most target : Int) (h : askC most target) (w : World) :
    Calls Tryz.prog 12 #[.int .i64 most, .int .i64 target] w fun e w' => e = .returned (.tuple #[.pointer (some ⟨w.heap.size, 0, none⟩), .int .i64 0]) ∧ RateAt w' w.heap.size (newC most target) ∧ Mod (fun _ => False) w w' := by
  obtain ⟨h1, h2, h3, h4⟩ := h
  have C1 := Lib.hid fun w' => numOf most (by omega) (by omega) w'
  have HB := Lib.hid (Blk.new w 97 #[.int .i64 (most * 65536), .int .i64 target, .int .i64 (most * 65536 / 16), .int .i64 32768, .int .i64 0])
  have HM := Lib.hid ((Mod.refl (fun _ => False) w).alloc (.cells #[.int .i64 (most * 65536), .int .i64 target, .int .i64 (most * 65536 / 16), .int .i64 32768, .int .i64 0] 97))
  have e1 : max (most * 65536 / 16) (most * 65536 / 64) = most * 65536 / 16 := by omega
  have e2 : max ((most * 65536).tdiv 16) ((most * 65536).tdiv 64) = most * 65536 / 16 := by rw [Int.tdiv_eq_ediv_of_nonneg (by omega), Int.tdiv_eq_ediv_of_nonneg (by omega)]; exact e1
  go_enter Tryz.func12, Tryz.ntmps12
  go_wp2_with fail
  refine (C1.out _).mono ?_
  rintro e w' ⟨rfl, rfl⟩
  go_wp2_with fail
  go_ret2
  exact ⟨rfl, HB.out, HM.out⟩
theorem newRateNo (most target : Int) (h : ¬ askC most target) (w : World) :
    Calls Tryz.prog 12 #[.int .i64 most, .int .i64 target] w fun e w' => e = .returned (.tuple #[.pointer none, .int .i64 1]) ∧ w = w' := by
  unfold askC at h
  by_cases h1 : most < 1
  · clear h
    go_enter Tryz.func12, Tryz.ntmps12
    go_wp2_with fail
    go_ret2
    exact ⟨rfl, rfl⟩
  by_cases h2 : 1048576 < most
  · clear h
    go_enter Tryz.func12, Tryz.ntmps12
    go_wp2_with fail
    go_ret2
    exact ⟨rfl, rfl⟩
  by_cases h3 : target < 0
  · clear h
    go_enter Tryz.func12, Tryz.ntmps12
    go_wp2_with fail
    go_ret2
    exact ⟨rfl, rfl⟩
  have h4 : 65536 < target := by omega
  clear h
  go_enter Tryz.func12, Tryz.ntmps12
  go_wp2_with fail
  go_ret2
  exact ⟨rfl, rfl⟩
theorem updateW (b : Nat) (s : CrS) (sent lost : Int) (hs : CrOk s) (hn : s.n ≤ 1000) (w : World) (h : RateAt w b s) :
    Calls Tryz.prog 14 #[.pointer (some ⟨b, 0, none⟩), .int .i64 sent, .int .i64 lost] w fun e w' => e = .returned (.int .i64 (updC s sent lost).R) ∧ RateAt w' b (updC s sent lost) ∧ Mod (· = b) w w' := by
  have hsb := sent_bd sent
  have hlb := lost_bd sent lost
  have c1 := fun w' => numClamp sent 0 1073741824 w'
  have c2 := fun w' => numClamp lost 0 (sentZ sent) w'
  rw [show clampZ sent 0 1073741824 = sentZ sent from rfl] at c1
  by_cases hS : sentZ sent = 0
  · have hu : updC s sent lost = s := by unfold updC; rw [if_pos hS]
    rw [hu]
    have hL : clampZ lost 0 (sentZ sent) = 0 := by omega
    rw [hL, hS] at c2
    rw [hS] at c1
    have C1 := Lib.hid c1
    have C2 := Lib.hid c2
    have C3 := Lib.hid fun w' => partNo 0 w'
    have h2 := h.cell 2
    simp at h2
    clear c1 c2 hsb hlb hS hu hL
    have HH := Lib.hid h
    clear h
    generalize s.R = R at *
    go_enter Tryz.func14, Tryz.ntmps14
    go_wp2_with fail
    refine (C1.out _).mono ?_
    rintro e w' ⟨rfl, rfl⟩
    go_wp2_with fail
    refine (C2.out _).mono ?_
    rintro e w' ⟨rfl, rfl⟩
    go_wp2_with fail
    refine (C3.out _).mono ?_
    rintro e w' ⟨rfl, rfl⟩
    go_wp2_with fail
    go_ret
    exact ⟨rfl, HH.out, Mod.refl _ _⟩
  have hz := loss_bd (lost := lost) hS
  have c3 := fun w' => partW (clampZ lost 0 (sentZ sent)) (sentZ sent) hlb.1 (by omega) (by omega) (by omega) w'
  rw [show clampZ lost 0 (sentZ sent) * 65536 / sentZ sent = lossZ sent lost from rfl] at c3
  have C1 := Lib.hid c1
  have C2 := Lib.hid c2
  have C3 := Lib.hid c3
  have hM := hs.2.1
  have hM1 := hs.1
  by_cases hT : lossZ sent lost ≤ s.T
  · have hu : updC s sent lost = { s with R := clampZ (riseR s) (s.M / 64) s.M, A := clampZ (riseA s) 1024 32768, n := s.n + 1 } := by unfold updC; rw [if_neg hS, if_pos hT]
    rw [hu]
    have C4 := Lib.hid (riseW b s hs (by omega) w h)
    have C5 := Lib.hid fun w' => fixClamp (riseA s) 1024 32768 w'
    have C6 := Lib.hid fun w' => fixClamp (riseR s) (s.M / 64) s.M w'
    have h1 := h.cell 1
    simp at h1
    clear c1 c2 c3 hu h hs
    generalize riseA s = a1 at *
    generalize riseR s = r1 at *
    obtain ⟨M, T, R, A, n⟩ := s
    simp only [RateAt] at *
    generalize lossZ sent lost = z at *
    generalize clampZ lost 0 (sentZ sent) = L at *
    generalize sentZ sent = S at *
    go_enter Tryz.func14, Tryz.ntmps14
    go_wp2_with fail
    refine (C1.out _).mono ?_
    rintro e w' ⟨rfl, rfl⟩
    go_wp2_with fail
    refine (C2.out _).mono ?_
    rintro e w' ⟨rfl, rfl⟩
    go_wp2_with fail
    refine (C3.out _).mono ?_
    rintro e w' ⟨rfl, rfl⟩
    go_wp2_with fail
    refine C4.out.mono ?_
    rintro e w2 ⟨rfl, h2, m2⟩
    have HC := Lib.hid h2
    have HM2 := Lib.hid m2
    have k0 := h2.cell 0
    have k2 := h2.cell 2
    have k3 := h2.cell 3
    have f2 := h2.free 2
    have f3 := h2.free 3
    simp at k0 k2 k3
    clear h2 m2
    go_wp2_with fail
    refine (C5.out _).mono ?_
    rintro e w' ⟨rfl, rfl⟩
    have h2 := HC.out
    go_wp2_with fail
    have h3 := h2.set 3 (.int .i64 (clampZ a1 1024 32768))
    refine region_quiet_tail 17 (by kernel_rfl) (by kernel_rfl) ?_
    simp only [List.take_succ_cons, List.take_zero, List.drop_succ_cons, List.drop_zero]
    repeat (go_big_quiet_step (first | (go_at_call 54; refine (C6.out _).mono ?_; rintro e w' ⟨rfl, rfl⟩; exact ⟨rfl, _, rfl⟩)))
    refine wpQuiet_nil ?_
    intro _ hw'
    obtain ⟨nq, hw''⟩ := hw'
    subst hw''
    go_wp2
    go_ret
    exact ⟨rfl, ((h3.drewN nq).set 2 _), ((HM2.out.set1 3 _).drewN nq).set1 2 _⟩
  · have hu : updC s sent lost = { s with R := clampZ (byZ (byZ s.R (65536 - lossZ sent lost)) (65536 + s.T)) (s.M / 64) s.M, A := clampZ (s.A / 2) 1024 32768, n := 0 } := by unfold updC; rw [if_neg hS, if_neg hT]
    rw [hu]
    have hT2 : s.T < lossZ sent lost := by omega
    obtain ⟨p1, p2, p3⟩ := fall_by1 hs hz.1 hz.2
    obtain ⟨q1, q2, q3⟩ := fall_by2 hs p2 p3
    obtain ⟨s1, s2, s3, s4, s5, s6, s7, s8, s9⟩ := hs
    have C4 := Lib.hid fun w' => byW s.R (65536 - lossZ sent lost) (by omega) (by omega) (by omega) (by omega) p1 w'
    have C5 := Lib.hid fun w' => byW (byZ s.R (65536 - lossZ sent lost)) (65536 + s.T) (by omega) (by omega) (by omega) (by omega) q1 w'
    have C7 := Lib.hid fun w' => fixClamp (s.A / 2) 1024 32768 w'
    have C6 := Lib.hid fun w' => fixClamp (byZ (byZ s.R (65536 - lossZ sent lost)) (65536 + s.T)) (s.M / 64) s.M w'
    clear c1 c2 c3 hu p1 q1
    generalize byZ (byZ s.R (65536 - lossZ sent lost)) (65536 + s.T) = r1 at *
    generalize byZ s.R (65536 - lossZ sent lost) = r0 at *
    obtain ⟨M, T, R, A, n⟩ := s
    simp only [RateAt] at *
    generalize lossZ sent lost = z at *
    generalize clampZ lost 0 (sentZ sent) = L at *
    generalize sentZ sent = S at *
    have hT3 : ¬ z ≤ T := by omega
    have hlt := h.lt
    have k0 := h.cell 0
    have k1 := h.cell 1
    have k2 := h.cell 2
    have k3 := h.cell 3
    have k4 := h.cell 4
    have f2 := h.free 2
    have f3 := h.free 3
    have f4 := h.free 4
    simp at k0 k1 k2 k3 k4
    obtain ⟨a1, ha1⟩ : ∃ a1, A / 2 = a1 := ⟨_, rfl⟩
    have ha2 : A.tdiv 2 = a1 := by rw [Int.tdiv_eq_ediv_of_nonneg (by omega), ha1]
    have HH := Lib.hid h
    clear h
    go_enter Tryz.func14, Tryz.ntmps14
    go_wp2_with fail
    refine (C1.out _).mono ?_
    rintro e w' ⟨rfl, rfl⟩
    go_wp2_with fail
    refine (C2.out _).mono ?_
    rintro e w' ⟨rfl, rfl⟩
    go_wp2_with fail
    refine (C3.out _).mono ?_
    rintro e w' ⟨rfl, rfl⟩
    go_wp2_with fail
    refine region_quiet_tail 16 (by kernel_rfl) (by kernel_rfl) ?_
    simp only [List.take_succ_cons, List.take_zero, List.drop_succ_cons, List.drop_zero]
    repeat (go_big_quiet_step (first
      | (go_at_call 53; refine (C4.out _).mono ?_; rintro e w' ⟨rfl, rfl⟩; exact ⟨rfl, _, rfl⟩)
      | (go_at_call 53; refine (C5.out _).mono ?_; rintro e w' ⟨rfl, rfl⟩; exact ⟨rfl, _, rfl⟩)))
    refine wpQuiet_nil ?_
    intro _ hw'
    obtain ⟨np, hw''⟩ := hw'
    subst hw''
    rw [ha1] at C7
    go_wp2_with (go_at_call 54; refine (C7.out _).mono ?_; rintro e w' ⟨rfl, rfl⟩)
    have h2 := (((HH.out.drewN np).set 2 (.int .i64 r1)).set 3 (.int .i64 a1)).set 4 (.int .i64 0)
    have h3 := h2.set 3 (.int .i64 (clampZ a1 1024 32768))
    refine region_quiet_tail 17 (by kernel_rfl) (by kernel_rfl) ?_
    simp only [List.take_succ_cons, List.take_zero, List.drop_succ_cons, List.drop_zero]
    repeat (go_big_quiet_step (first | (go_at_call 54; refine (C6.out _).mono ?_; rintro e w' ⟨rfl, rfl⟩; exact ⟨rfl, _, rfl⟩)))
    refine wpQuiet_nil ?_
    intro _ hw'
    obtain ⟨nq, hw''⟩ := hw'
    subst hw''
    go_wp2
    go_ret
    rw [ha1]
    exact ⟨rfl, ((h3.drewN nq).set 2 _), ((((((((Mod.refl _ _).drewN np).set1 2 _).set1 3 _).set1 4 _).set1 3 _).drewN nq).set1 2 _)⟩
end Go.Proofs.YtigkndbkaagboaaGreatDoor
