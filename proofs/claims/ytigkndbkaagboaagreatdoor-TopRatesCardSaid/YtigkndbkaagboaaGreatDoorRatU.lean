/- Contracts of credit's rate, and of the document's. -/
import Derived.Test.YtigkndbkaagboaaGreatDoorRatW
import Derived.Test.YtigkndbkaagboaaGreatDoorMem
import Derived.Test.YtigkndbkaagboaaGreatDoorReg
namespace Go.Proofs.YtigkndbkaagboaaGreatDoor
open Go.RowKit
set_option linter.unusedVariables false
set_option maxHeartbeats 4000000
set_option maxRecDepth 100000
/-- The program's rate. -/
def RateAt (w : World) (b : Nat) (s : CrS) : Prop := Blk w b 97 #[.int .i64 s.M, .int .i64 s.T, .int .i64 s.R, .int .i64 s.A, .int .i64 s.n]
/-- The document's rate. -/
def RefAt (w : World) (b : Nat) (s : CrS) : Prop := Blk w b 99 #[.int .i64 s.M, .int .i64 s.T, .int .i64 s.R, .int .i64 s.A, .int .i64 s.n, .bool (decide (0 < s.n))]
theorem riseW (b : Nat) (s : CrS) (hs : CrOk s) (hn : s.n ≤ 1000000) (w : World) (h : RateAt w b s) :
    Calls Tryz.prog 52 #[.pointer (some ⟨b, 0, none⟩)] w fun e w' => e = .returned (.tuple #[]) ∧ RateAt w' b { s with R := riseR s, A := riseA s, n := s.n + 1 } ∧ Mod (· = b) w w' := by
  have ha := riseA_bd hs
  obtain ⟨p1, p2, p3⟩ := rise_by1 hs
  obtain ⟨q1, q2, q3⟩ := rise_by2 hs
  have C1 := Lib.hid fun w' => byW (riseA s) s.M (by omega) (by omega) (by obtain ⟨h1, _⟩ := hs; omega) (by obtain ⟨_, h2, _⟩ := hs; omega) p1 w'
  have C2 := Lib.hid fun w' => byW (65536 - riseA s) s.R (by omega) (by omega) (by obtain ⟨h1, _, _, _, h5, _⟩ := hs; omega) (by obtain ⟨_, h2, _, _, _, h6, _⟩ := hs; omega) q1 w'
  have C3 := Lib.hid fun w' => plusW (byZ (riseA s) s.M) (byZ (65536 - riseA s) s.R) p2 q2 (by omega) w'
  have hR : riseR s = byZ (riseA s) s.M + byZ (65536 - riseA s) s.R := rfl
  rw [hR]
  have hA : riseA s = if 0 < s.n then (s.A + 32768) / 2 else s.A := rfl
  have hA1 : 0 < s.n → riseA s = (s.A + 32768) / 2 := fun h => by rw [hA, if_pos h]
  have hA2 : ¬ 0 < s.n → riseA s = s.A := fun h => by rw [hA, if_neg h]
  clear hA hR p1 q1
  generalize byZ (riseA s) s.M = x at *
  generalize byZ (65536 - riseA s) s.R = y at *
  generalize riseA s = a at *
  obtain ⟨M, T, R, A, n⟩ := s
  simp only [RateAt] at *
  obtain ⟨s1, s2, s3, s4, s5, s6, s7, s8, s9⟩ := hs
  simp only at s1 s2 s3 s4 s5 s6 s7 s8 s9
  have h0 := h.cell 0
  have h1 := h.cell 1
  have h2 := h.cell 2
  have h3 := h.cell 3
  have h4 := h.cell 4
  have f0 := h.free 2
  have f3 := h.free 3
  have f4 := h.free 4
  simp at h0 h1 h2 h3 h4
  have hlt := h.lt
  by_cases hn0 : 0 < n
  · have hav := hA1 hn0
    have hdv : (A + 32768).tdiv 2 = a := by rw [Int.tdiv_eq_ediv_of_nonneg (by omega), hav]
    have HDV := Lib.hid hdv
    have hx : wrap64 ((A + 32768).tdiv 2) = a := by rw [hdv]; unfold wrap64; omega
    have hdd : (A + 32768) / 2 = a := hav.symm
    clear hA1 hA2 hav
    go_enter Tryz.func52, Tryz.ntmps52
    go_wp2_with fail
    refine region_quiet_tail 23 (by kernel_rfl) (by kernel_rfl) ?_
    simp only [List.take_succ_cons, List.take_zero, List.drop_succ_cons, List.drop_zero]
    repeat (go_big_quiet_step (first
      | (go_at_call 53; refine (C1.out _).mono ?_; rintro e w' ⟨rfl, rfl⟩; exact ⟨rfl, _, rfl⟩)
      | (go_at_call 53; refine (C2.out _).mono ?_; rintro e w' ⟨rfl, rfl⟩; exact ⟨rfl, _, rfl⟩)
      | (go_at_call 92; refine (C3.out _).mono ?_; rintro e w' ⟨rfl, rfl⟩; exact ⟨rfl, _, rfl⟩)))
    refine wpQuiet_nil ?_
    intro _ hw'
    obtain ⟨nq, hw''⟩ := hw'
    subst hw''
    go_wp2
    go_end0
    exact ⟨rfl, ((((h.set 3 _).drewN nq).set 2 _).set 4 _), ((((Mod.refl _ _).set1 3 _).drewN nq).set1 2 _).set1 4 _⟩
  · have hav := hA2 hn0
    subst hav
    clear hA1 hA2
    go_enter Tryz.func52, Tryz.ntmps52
    go_wp2_with fail
    refine region_quiet_tail 23 (by kernel_rfl) (by kernel_rfl) ?_
    simp only [List.take_succ_cons, List.take_zero, List.drop_succ_cons, List.drop_zero]
    repeat (go_big_quiet_step (first
      | (go_at_call 53; refine (C1.out _).mono ?_; rintro e w' ⟨rfl, rfl⟩; exact ⟨rfl, _, rfl⟩)
      | (go_at_call 53; refine (C2.out _).mono ?_; rintro e w' ⟨rfl, rfl⟩; exact ⟨rfl, _, rfl⟩)
      | (go_at_call 92; refine (C3.out _).mono ?_; rintro e w' ⟨rfl, rfl⟩; exact ⟨rfl, _, rfl⟩)))
    refine wpQuiet_nil ?_
    intro _ hw'
    obtain ⟨nq, hw''⟩ := hw'
    subst hw''
    go_wp2
    go_end0
    exact ⟨rfl, (((h.drewN nq).set 2 _).set 4 _), (((Mod.refl _ _).drewN nq).set1 2 _).set1 4 _⟩
end Go.Proofs.YtigkndbkaagboaaGreatDoor
