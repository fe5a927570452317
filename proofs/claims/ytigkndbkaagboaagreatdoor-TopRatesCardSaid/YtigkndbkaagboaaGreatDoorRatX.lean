/- Contracts of the document's NewRate and Update. -/
import Derived.Test.YtigkndbkaagboaaGreatDoorRatU
namespace Go.Proofs.YtigkndbkaagboaaGreatDoor
open Go.RowKit
set_option linter.unusedVariables false
set_option linter.unusedSimpArgs false
set_option maxHeartbeats 40000000
set_option maxRecDepth 100000
theorem refNewW (most target : Int) (h : askC most target) (w : World) :
    Calls Tryz.prog 13 #[.int .i64 most, .int .i64 target] w fun e w' => e = .returned (.tuple #[.pointer (some ⟨w.heap.size, 0, none⟩), .int .i64 0]) ∧ RefAt w' w.heap.size (newC most target) ∧ Mod (fun _ => False) w w' := by
  obtain ⟨h1, h2, h3, h4⟩ := h
  have HB := Lib.hid (Blk.new w 99 #[.int .i64 (most * 65536), .int .i64 target, .int .i64 (most * 65536 / 16), .int .i64 32768, .int .i64 0, .bool false])
  have HM := Lib.hid ((Mod.refl (fun _ => False) w).alloc (.cells #[.int .i64 (most * 65536), .int .i64 target, .int .i64 (most * 65536 / 16), .int .i64 32768, .int .i64 0, .bool false] 99))
  have e1 : max (most * 65536 / 16) (most * 65536 / 64) = most * 65536 / 16 := by omega
  have e2 : max ((most * 65536).tdiv 16) ((most * 65536).tdiv 64) = most * 65536 / 16 := by rw [Int.tdiv_eq_ediv_of_nonneg (by omega), Int.tdiv_eq_ediv_of_nonneg (by omega)]; exact e1
  go_enter Tryz.func13, Tryz.ntmps13
  go_wp2_with fail
  go_ret2
  exact ⟨rfl, HB.out, HM.out⟩
theorem refNewNo (most target : Int) (h : ¬ askC most target) (w : World) :
    Calls Tryz.prog 13 #[.int .i64 most, .int .i64 target] w fun e w' => e = .returned (.tuple #[.pointer none, .int .i64 1]) ∧ w = w' := by
  unfold askC at h
  by_cases h1 : most < 1
  · clear h
    go_enter Tryz.func13, Tryz.ntmps13
    go_wp2_with fail
    go_ret2
    exact ⟨rfl, rfl⟩
  by_cases h2 : 1048576 < most
  · clear h
    go_enter Tryz.func13, Tryz.ntmps13
    go_wp2_with fail
    go_ret2
    exact ⟨rfl, rfl⟩
  by_cases h3 : target < 0
  · clear h
    go_enter Tryz.func13, Tryz.ntmps13
    go_wp2_with fail
    go_ret2
    exact ⟨rfl, rfl⟩
  have h4 : 65536 < target := by omega
  clear h
  go_enter Tryz.func13, Tryz.ntmps13
  go_wp2_with fail
  go_ret2
  exact ⟨rfl, rfl⟩
theorem refUpdateW (b : Nat) (s : CrS) (sent lost : Int) (hs : CrOk s) (hn : s.n ≤ 1000) (w : World) (h : RefAt w b s) :
    Calls Tryz.prog 15 #[.pointer (some ⟨b, 0, none⟩), .int .i64 sent, .int .i64 lost] w fun e w' => e = .returned (.int .i64 (updC s sent lost).R) ∧ RefAt w' b (updC s sent lost) ∧ Mod (· = b) w w' := by
  have hsb := sent_bd sent
  have hlb := lost_bd sent lost
  have c1 := fun w' => refClamp sent 0 1073741824 w'
  have c2 := fun w' => refClamp lost 0 (sentZ sent) w'
  rw [show clampZ sent 0 1073741824 = sentZ sent from rfl] at c1
  by_cases hS : sentZ sent = 0
  · have hu : updC s sent lost = s := by unfold updC; rw [if_pos hS]
    rw [hu]
    have hL : clampZ lost 0 (sentZ sent) = 0 := by omega
    rw [hL, hS] at c2
    rw [hS] at c1
    have C1 := Lib.hid c1
    have C2 := Lib.hid c2
    have h2 := h.cell 2
    simp at h2
    clear c1 c2 hsb hlb hS hu hL
    have HH := Lib.hid h
    clear h
    generalize s.R = R at *
    go_enter Tryz.func15, Tryz.ntmps15
    go_wp2_with fail
    refine (C1.out _).mono ?_
    rintro e w' ⟨rfl, rfl⟩
    go_wp2_with fail
    refine (C2.out _).mono ?_
    rintro e w' ⟨rfl, rfl⟩
    go_wp2_with fail
    go_ret
    exact ⟨rfl, HH.out, Mod.refl _ _⟩
  have hz := loss_bd (lost := lost) hS
  have c3 := fun w' => refPart (clampZ lost 0 (sentZ sent)) (sentZ sent) hlb.1 (by omega) (by omega) (by omega) w'
  rw [show clampZ lost 0 (sentZ sent) * 65536 / sentZ sent = lossZ sent lost from rfl] at c3
  have C1 := Lib.hid c1
  have C2 := Lib.hid c2
  have C3 := Lib.hid c3
  have hM := hs.2.1
  have hM1 := hs.1
  have hSb : (sentZ sent == 0) = false := by simp [hS]
  by_cases hT : lossZ sent lost ≤ s.T
  · have hu : updC s sent lost = { s with R := clampZ (riseR s) (s.M / 64) s.M, A := clampZ (riseA s) 1024 32768, n := s.n + 1 } := by unfold updC; rw [if_neg hS, if_pos hT]
    rw [hu]
    have ha := riseA_bd hs
    obtain ⟨p1, p2, p3⟩ := rise_by1 hs
    obtain ⟨q1, q2, q3⟩ := rise_by2 hs
    have C5 := Lib.hid fun w' => refClamp (riseA s) 1024 32768 w'
    have C6 := Lib.hid fun w' => refClamp (riseR s) (s.M / 64) s.M w'
    have C4 := Lib.hid fun w' => refBy (riseA s) s.M (by omega) (by omega) (by omega) (by omega) p1 w'
    have C7 := Lib.hid fun w' => refBy (65536 - riseA s) s.R (by omega) (by omega) (by obtain ⟨h1, _, _, _, h5, _⟩ := hs; omega) (by obtain ⟨_, h2, _, _, _, h6, _⟩ := hs; omega) q1 w'
    have c8 := fun w' => refPlus (byZ (riseA s) s.M) (byZ (65536 - riseA s) s.R) p2 q2 (by omega) w'
    rw [show byZ (riseA s) s.M + byZ (65536 - riseA s) s.R = riseR s from rfl] at c8
    have C8 := Lib.hid c8
    have hA1 : 0 < s.n → (s.A + 32768) / 2 = riseA s := fun h => by unfold riseA; rw [if_pos h]
    have hA2 : ¬ 0 < s.n → s.A = riseA s := fun h => by unfold riseA; rw [if_neg h]
    have hd : decide (0 < s.n + 1) = true := by have := hs.2.2.2.2.2.2.2.2; simp; omega
    have hs7 := hs.2.2.2.2.2.2.1
    have hs8 := hs.2.2.2.2.2.2.2.1
    have hs9 := hs.2.2.2.2.2.2.2.2
    clear c1 c2 c3 c8 hu hs p1 q1
    generalize byZ (riseA s) s.M = x at *
    generalize byZ (65536 - riseA s) s.R = y at *
    generalize riseR s = r1 at *
    generalize riseA s = a1 at *
    obtain ⟨M, T, R, A, n⟩ := s
    simp only [RefAt] at *
    rw [hd]
    generalize lossZ sent lost = z at *
    generalize clampZ lost 0 (sentZ sent) = L at *
    generalize sentZ sent = S at *
    by_cases hn0 : 0 < n
    · have hdn : decide (0 < n) = true := by simpa using hn0
      rw [hdn] at h
      have hav := hA1 hn0
      have hat : (A + 32768).tdiv 2 = a1 := by rw [Int.tdiv_eq_ediv_of_nonneg (by omega), hav]
      have hlt := h.lt
      have k0 := h.cell 0
      have k1 := h.cell 1
      have k2 := h.cell 2
      have k3 := h.cell 3
      have k4 := h.cell 4
      have k5 := h.cell 5
      have f2 := h.free 2
      have f3 := h.free 3
      have f4 := h.free 4
      have f5 := h.free 5
      simp only [List.size_toArray, List.getElem?_toArray, List.getElem?_cons_zero, List.getElem?_cons_succ] at k0 k1 k2 k3 k4 k5
      have HH := Lib.hid h
      clear h
      clear hA1 hA2
      generalize clampZ r1 (M / 64) M = r2 at *
      generalize clampZ a1 1024 32768 = a2 at *
      go_enter Tryz.func15, Tryz.ntmps15
      go_wp2_with fail
      refine (C1.out _).mono ?_
      rintro e w' ⟨rfl, rfl⟩
      go_wp2_with fail
      refine (C2.out _).mono ?_
      rintro e w' ⟨rfl, rfl⟩
      go_wp2_with fail
      refine (C3.out _).mono ?_
      rintro e w' ⟨rfl, rfl⟩
      go_wp2_with fail
      refine region_quiet_tail 23 (by kernel_rfl) (by kernel_rfl) ?_
      simp only [List.take_succ_cons, List.take_zero, List.drop_succ_cons, List.drop_zero]
      repeat (go_big_quiet_step (first
        | (go_at_call 58; with_reducible refine (C4.out _).mono ?_; rintro e w' ⟨rfl, rfl⟩; exact ⟨rfl, _, rfl⟩)
        | (go_at_call 58; with_reducible refine (C7.out _).mono ?_; rintro e w' ⟨rfl, rfl⟩; exact ⟨rfl, _, rfl⟩)
        | (go_at_call 57; with_reducible refine (C8.out _).mono ?_; rintro e w' ⟨rfl, rfl⟩; exact ⟨rfl, _, rfl⟩)))
      refine wpQuiet_nil ?_
      intro _ hw'
      obtain ⟨np, hw''⟩ := hw'
      subst hw''
      go_wp2_with fail
      have h2 := (((HH.out.set 3 (.int .i64 a1)).drewN np).set 2 (.int .i64 r1)).set 5 (.bool true) |>.set 4 (.int .i64 (n + 1))
      have h3 := h2.set 2 (.int .i64 r2)
      refine region_quiet_tail 17 (by kernel_rfl) (by kernel_rfl) ?_
      simp only [List.take_succ_cons, List.take_zero, List.drop_succ_cons, List.drop_zero]
      repeat (go_big_quiet_step (first | (go_at_call 55; with_reducible refine (C6.out _).mono ?_; rintro e w' ⟨rfl, rfl⟩; exact ⟨rfl, _, rfl⟩)))
      refine wpQuiet_nil ?_
      intro _ hw'
      obtain ⟨nq, hw''⟩ := hw'
      subst hw''
      have HB5 := Lib.hid (show Blk ((((((w.setCell ⟨b, 3, none⟩ (.int .i64 a1)).drewN np).setCell ⟨b, 2, none⟩ (.int .i64 r1)).setCell ⟨b, 5, none⟩ (.bool true)).setCell ⟨b, 4, none⟩ (.int .i64 (n + 1))).drewN nq) b 99 #[.int .i64 M, .int .i64 T, .int .i64 r1, .int .i64 a1, .int .i64 (n + 1), .bool true] from h2.drewN nq)
      have hm5 : Mod (· = b) w ((((((w.setCell ⟨b, 3, none⟩ (.int .i64 a1)).drewN np).setCell ⟨b, 2, none⟩ (.int .i64 r1)).setCell ⟨b, 5, none⟩ (.bool true)).setCell ⟨b, 4, none⟩ (.int .i64 (n + 1))).drewN nq) := (((((((Mod.refl _ _).set1 3 _).drewN np).set1 2 _).set1 5 _).set1 4 _).drewN nq)
      have HM5 := Lib.hid hm5
      clear hm5 h2 h3 hlt k0 k1 k2 k3 k4 k5 f2 f3 f4 f5
      generalize ((((((w.setCell ⟨b, 3, none⟩ (.int .i64 a1)).drewN np).setCell ⟨b, 2, none⟩ (.int .i64 r1)).setCell ⟨b, 5, none⟩ (.bool true)).setCell ⟨b, 4, none⟩ (.int .i64 (n + 1))).drewN nq) = W5 at *
      have hlt := HB5.out.lt
      have k0 := HB5.out.cell 0
      have k1 := HB5.out.cell 1
      have k2 := HB5.out.cell 2
      have k3 := HB5.out.cell 3
      have k4 := HB5.out.cell 4
      have k5 := HB5.out.cell 5
      have f2 := HB5.out.free 2
      have f3 := HB5.out.free 3
      simp only [List.size_toArray, List.getElem?_toArray, List.getElem?_cons_zero, List.getElem?_cons_succ] at k0 k1 k2 k3 k4 k5
      go_wp2_with fail
      refine (C5.out _).mono ?_
      rintro e w' ⟨rfl, rfl⟩
      go_wp2_with fail
      go_ret
      exact ⟨rfl, (HB5.out.set 2 _).set 3 _, (HM5.out.set1 2 _).set1 3 _⟩
    · have hdn : decide (0 < n) = false := by simp; omega
      rw [hdn] at h
      have hav := hA2 hn0
      have hav' := hav.symm
      subst hav'
      have hlt := h.lt
      have k0 := h.cell 0
      have k1 := h.cell 1
      have k2 := h.cell 2
      have k3 := h.cell 3
      have k4 := h.cell 4
      have k5 := h.cell 5
      have f2 := h.free 2
      have f3 := h.free 3
      have f4 := h.free 4
      have f5 := h.free 5
      simp only [List.size_toArray, List.getElem?_toArray, List.getElem?_cons_zero, List.getElem?_cons_succ] at k0 k1 k2 k3 k4 k5
      have HH := Lib.hid h
      clear h
      clear hA1 hA2
      generalize clampZ r1 (M / 64) M = r2 at *
      generalize clampZ a1 1024 32768 = a2 at *
      go_enter Tryz.func15, Tryz.ntmps15
      go_wp2_with fail
      refine (C1.out _).mono ?_
      rintro e w' ⟨rfl, rfl⟩
      go_wp2_with fail
      refine (C2.out _).mono ?_
      rintro e w' ⟨rfl, rfl⟩
      go_wp2_with fail
      refine (C3.out _).mono ?_
      rintro e w' ⟨rfl, rfl⟩
      go_wp2_with fail
      refine region_quiet_tail 23 (by kernel_rfl) (by kernel_rfl) ?_
      simp only [List.take_succ_cons, List.take_zero, List.drop_succ_cons, List.drop_zero]
      repeat (go_big_quiet_step (first
        | (go_at_call 58; with_reducible refine (C4.out _).mono ?_; rintro e w' ⟨rfl, rfl⟩; exact ⟨rfl, _, rfl⟩)
        | (go_at_call 58; with_reducible refine (C7.out _).mono ?_; rintro e w' ⟨rfl, rfl⟩; exact ⟨rfl, _, rfl⟩)
        | (go_at_call 57; with_reducible refine (C8.out _).mono ?_; rintro e w' ⟨rfl, rfl⟩; exact ⟨rfl, _, rfl⟩)))
      refine wpQuiet_nil ?_
      intro _ hw'
      obtain ⟨np, hw''⟩ := hw'
      subst hw''
      go_wp2_with fail
      have h2 := ((HH.out.drewN np).set 2 (.int .i64 r1)).set 5 (.bool true) |>.set 4 (.int .i64 (n + 1))
      have h3 := h2.set 2 (.int .i64 r2)
      refine region_quiet_tail 17 (by kernel_rfl) (by kernel_rfl) ?_
      simp only [List.take_succ_cons, List.take_zero, List.drop_succ_cons, List.drop_zero]
      repeat (go_big_quiet_step (first | (go_at_call 55; with_reducible refine (C6.out _).mono ?_; rintro e w' ⟨rfl, rfl⟩; exact ⟨rfl, _, rfl⟩)))
      refine wpQuiet_nil ?_
      intro _ hw'
      obtain ⟨nq, hw''⟩ := hw'
      subst hw''
      have HB5 := Lib.hid (show Blk (((((w.drewN np).setCell ⟨b, 2, none⟩ (.int .i64 r1)).setCell ⟨b, 5, none⟩ (.bool true)).setCell ⟨b, 4, none⟩ (.int .i64 (n + 1))).drewN nq) b 99 #[.int .i64 M, .int .i64 T, .int .i64 r1, .int .i64 a1, .int .i64 (n + 1), .bool true] from h2.drewN nq)
      have hm5 : Mod (· = b) w (((((w.drewN np).setCell ⟨b, 2, none⟩ (.int .i64 r1)).setCell ⟨b, 5, none⟩ (.bool true)).setCell ⟨b, 4, none⟩ (.int .i64 (n + 1))).drewN nq) := ((((((Mod.refl _ _).drewN np).set1 2 _).set1 5 _).set1 4 _).drewN nq)
      have HM5 := Lib.hid hm5
      clear hm5 h2 h3 hlt k0 k1 k2 k3 k4 k5 f2 f3 f4 f5
      generalize (((((w.drewN np).setCell ⟨b, 2, none⟩ (.int .i64 r1)).setCell ⟨b, 5, none⟩ (.bool true)).setCell ⟨b, 4, none⟩ (.int .i64 (n + 1))).drewN nq) = W5 at *
      have hlt := HB5.out.lt
      have k0 := HB5.out.cell 0
      have k1 := HB5.out.cell 1
      have k2 := HB5.out.cell 2
      have k3 := HB5.out.cell 3
      have k4 := HB5.out.cell 4
      have k5 := HB5.out.cell 5
      have f2 := HB5.out.free 2
      have f3 := HB5.out.free 3
      simp only [List.size_toArray, List.getElem?_toArray, List.getElem?_cons_zero, List.getElem?_cons_succ] at k0 k1 k2 k3 k4 k5
      go_wp2_with fail
      refine (C5.out _).mono ?_
      rintro e w' ⟨rfl, rfl⟩
      go_wp2_with fail
      go_ret
      exact ⟨rfl, (HB5.out.set 2 _).set 3 _, (HM5.out.set1 2 _).set1 3 _⟩
  · have hu : updC s sent lost = { s with R := clampZ (byZ (byZ s.R (65536 - lossZ sent lost)) (65536 + s.T)) (s.M / 64) s.M, A := clampZ (s.A / 2) 1024 32768, n := 0 } := by unfold updC; rw [if_neg hS, if_neg hT]
    rw [hu]
    have hT2 : s.T < lossZ sent lost := by omega
    obtain ⟨p1, p2, p3⟩ := fall_by1 hs hz.1 hz.2
    obtain ⟨q1, q2, q3⟩ := fall_by2 hs p2 p3
    obtain ⟨s1, s2, s3, s4, s5, s6, s7, s8, s9⟩ := hs
    have C4 := Lib.hid fun w' => refBy s.R (65536 - lossZ sent lost) (by omega) (by omega) (by omega) (by omega) p1 w'
    have C7 := Lib.hid fun w' => refBy (byZ s.R (65536 - lossZ sent lost)) (65536 + s.T) (by omega) (by omega) (by omega) (by omega) q1 w'
    have C8 := Lib.hid fun w' => refPlus 0 0 (by omega) (by omega) (by omega) w'
    have c5 := fun w' => refClamp (s.A / 2) 1024 32768 w'
    have C6 := Lib.hid fun w' => refClamp (byZ (byZ s.R (65536 - lossZ sent lost)) (65536 + s.T)) (s.M / 64) s.M w'
    clear c1 c2 c3 hu p1 q1
    generalize byZ (byZ s.R (65536 - lossZ sent lost)) (65536 + s.T) = r1 at *
    generalize byZ s.R (65536 - lossZ sent lost) = r0 at *
    obtain ⟨M, T, R, A, n⟩ := s
    simp only [RefAt] at *
    generalize lossZ sent lost = z at *
    generalize clampZ lost 0 (sentZ sent) = L at *
    generalize sentZ sent = S at *
    have hT3 : ¬ z ≤ T := by omega
    obtain ⟨a1, ha1⟩ : ∃ a1, A / 2 = a1 := ⟨_, rfl⟩
    have ha2 : A.tdiv 2 = a1 := by rw [Int.tdiv_eq_ediv_of_nonneg (by omega), ha1]
    rw [ha1] at c5
    have C5 := Lib.hid c5
    have hd0 : decide ((0 : Int) < 0) = false := by simp
    rw [hd0, ha1]
    clear c5 hd0
    generalize decide (0 < n) = rose at *
    have hlt := h.lt
    have k0 := h.cell 0
    have k1 := h.cell 1
    have k2 := h.cell 2
    have k3 := h.cell 3
    have k4 := h.cell 4
    have k5 := h.cell 5
    have f2 := h.free 2
    have f3 := h.free 3
    have f4 := h.free 4
    have f5 := h.free 5
    simp only [List.size_toArray, List.getElem?_toArray, List.getElem?_cons_zero, List.getElem?_cons_succ] at k0 k1 k2 k3 k4 k5
    have HH := Lib.hid h
    clear h
    generalize clampZ r1 (M / 64) M = r2 at *
    generalize clampZ a1 1024 32768 = a2 at *
    go_enter Tryz.func15, Tryz.ntmps15
    go_wp2_with fail
    refine (C1.out _).mono ?_
    rintro e w' ⟨rfl, rfl⟩
    go_wp2_with fail
    refine (C2.out _).mono ?_
    rintro e w' ⟨rfl, rfl⟩
    go_wp2_with fail
    refine (C3.out _).mono ?_
    rintro e w' ⟨rfl, rfl⟩
    go_wp2_with fail
    refine region_quiet_tail 16 (by kernel_rfl) (by kernel_rfl) ?_
    simp only [List.take_succ_cons, List.take_zero, List.drop_succ_cons, List.drop_zero]
    repeat (go_big_quiet_step (first
      | (go_at_call 58; with_reducible refine (C4.out _).mono ?_; rintro e w' ⟨rfl, rfl⟩; exact ⟨rfl, _, rfl⟩)
      | (go_at_call 58; with_reducible refine (C7.out _).mono ?_; rintro e w' ⟨rfl, rfl⟩; exact ⟨rfl, _, rfl⟩)
      | (go_at_call 57; with_reducible refine (C8.out _).mono ?_; rintro e w' ⟨rfl, rfl⟩; exact ⟨rfl, _, rfl⟩)))
    refine wpQuiet_nil ?_
    intro _ hw'
    obtain ⟨np, hw''⟩ := hw'
    subst hw''

    go_wp2_with fail
    have h2 := ((((HH.out.drewN np).set 2 (.int .i64 r1)).set 3 (.int .i64 a1)).set 5 (.bool false)).set 4 (.int .i64 0)
    have h3 := h2.set 2 (.int .i64 r2)
    refine region_quiet_tail 17 (by kernel_rfl) (by kernel_rfl) ?_
    simp only [List.take_succ_cons, List.take_zero, List.drop_succ_cons, List.drop_zero]
    repeat (go_big_quiet_step (first | (go_at_call 55; with_reducible refine (C6.out _).mono ?_; rintro e w' ⟨rfl, rfl⟩; exact ⟨rfl, _, rfl⟩)))
    refine wpQuiet_nil ?_
    intro _ hw'
    obtain ⟨nq, hw''⟩ := hw'
    subst hw''
    have HB5 := Lib.hid (show Blk ((((((w.drewN np).setCell ⟨b, 2, none⟩ (.int .i64 r1)).setCell ⟨b, 3, none⟩ (.int .i64 a1)).setCell ⟨b, 5, none⟩ (.bool false)).setCell ⟨b, 4, none⟩ (.int .i64 0)).drewN nq) b 99 #[.int .i64 M, .int .i64 T, .int .i64 r1, .int .i64 a1, .int .i64 0, .bool false] from h2.drewN nq)
    have hm5 : Mod (· = b) w ((((((w.drewN np).setCell ⟨b, 2, none⟩ (.int .i64 r1)).setCell ⟨b, 3, none⟩ (.int .i64 a1)).setCell ⟨b, 5, none⟩ (.bool false)).setCell ⟨b, 4, none⟩ (.int .i64 0)).drewN nq) := (((((((Mod.refl _ _).drewN np).set1 2 _).set1 3 _).set1 5 _).set1 4 _).drewN nq)
    have HM5 := Lib.hid hm5
    clear hm5 h2 h3 hlt k0 k1 k2 k3 k4 k5 f2 f3 f4 f5
    generalize ((((((w.drewN np).setCell ⟨b, 2, none⟩ (.int .i64 r1)).setCell ⟨b, 3, none⟩ (.int .i64 a1)).setCell ⟨b, 5, none⟩ (.bool false)).setCell ⟨b, 4, none⟩ (.int .i64 0)).drewN nq) = W5 at *
    have hlt := HB5.out.lt
    have k0 := HB5.out.cell 0
    have k1 := HB5.out.cell 1
    have k2 := HB5.out.cell 2
    have k3 := HB5.out.cell 3
    have k4 := HB5.out.cell 4
    have k5 := HB5.out.cell 5
    have f2 := HB5.out.free 2
    have f3 := HB5.out.free 3
    simp only [List.size_toArray, List.getElem?_toArray, List.getElem?_cons_zero, List.getElem?_cons_succ] at k0 k1 k2 k3 k4 k5
    go_wp2_with fail
    refine (C5.out _).mono ?_
    rintro e w' ⟨rfl, rfl⟩
    go_wp2_with fail
    go_ret
    exact ⟨rfl, (HB5.out.set 2 _).set 3 _, (HM5.out.set1 2 _).set1 3 _⟩
end Go.Proofs.YtigkndbkaagboaaGreatDoor
