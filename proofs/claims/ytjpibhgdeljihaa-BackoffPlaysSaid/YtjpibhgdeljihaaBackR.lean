/- Contracts of the reference's timer, and of awake. -/
import Derived.Test.YtjpibhgdeljihaaBackW
namespace Go.Proofs.Ytjpibhgdeljihaa
open Go.RowKit
set_option linter.unusedVariables false
/-- A timer of the reference. -/
def Rt (w : World) (b : Nat) (base limit most : Int) (runs : Bool) (at_ tries : Int) : Prop :=
  Blk w b 39 #[.int .i64 base, .int .i64 limit, .int .i64 most, .bool runs, .int .i64 at_, .int .i64 tries]
theorem refStartW (b : Nat) (base limit most : Int) (runs : Bool) (at_ tries : Int) (now : Int) (w : World) (h : Rt w b base limit most runs at_ tries) :
    Calls Try.prog 16 #[.pointer (some ⟨b, 0, none⟩), .int .i64 now] w fun e w' => e = .returned (.tuple #[]) ∧ Rt w' b base limit most true (addZ now (delayZ base limit 0)) 0 ∧ Mod (· = b) w w' := by
  unfold Rt at h
  have hc := h.cell
  have hf := h.free
  go_enter Try.func16, Try.ntmps16
  go_wp2
  refine region_quiet_tail 12 (by kernel_rfl) (by kernel_rfl) ?_
  simp only [List.take_succ_cons, List.take_zero, List.drop_succ_cons, List.drop_zero]
  repeat (go_big_quiet_step (first | (go_at_call 8; refine (refDelayW _ _ _ _).mono ?_; rintro e w' ⟨rfl, rfl⟩; exact ⟨rfl, _, rfl⟩) | (go_at_call 22; refine (refAdd _ _ _).mono ?_; rintro e w' ⟨rfl, rfl⟩; exact ⟨rfl, _, rfl⟩)))
  refine wpQuiet_nil ?_
  intro _ hw'
  obtain ⟨nq, hw''⟩ := hw'
  subst hw''
  go_wp2
  go_end0
  exact ⟨rfl, (((h.set 3 _).set 5 _).drewN nq).set 4 _, ((((Mod.refl _ _).set1 3 _).set1 5 _).drewN nq).set1 4 _⟩
/-- Not due. -/
theorem refFiredNo (b : Nat) (base limit most : Int) (runs : Bool) (at_ tries : Int) (now : Int) (w : World) (h : Rt w b base limit most runs at_ tries) (hn : runs = false ∨ now < at_) :
    Calls Try.prog 17 #[.pointer (some ⟨b, 0, none⟩), .int .i64 now] w fun e w' => e = .returned (.tuple #[.bool false, .int .i64 0]) ∧ w = w' := by
  unfold Rt at h
  have hc := h.cell
  have hf := h.free
  cases runs
  · clear hn
    go_enter Try.func17, Try.ntmps17
    go_wp2
    go_ret2
    exact ⟨rfl, rfl⟩
  · have hn : now < at_ := by simpa using hn
    go_enter Try.func17, Try.ntmps17
    go_wp2
    go_ret2
    exact ⟨rfl, rfl⟩
/-- Due, and there are tries left. -/
theorem refFiredYes (b : Nat) (base limit most : Int) (at_ tries : Int) (now : Int) (w : World) (h : Rt w b base limit most true at_ tries) (hn : ¬ now < at_) (ht : 0 ≤ tries) (ht2 : tries < 9223372036854775807) (hm : most ≤ 0 ∨ tries + 1 ≤ most) :
    Calls Try.prog 17 #[.pointer (some ⟨b, 0, none⟩), .int .i64 now] w fun e w' => e = .returned (.tuple #[.bool true, .int .i64 0]) ∧ Rt w' b base limit most true (addZ now (delayZ base limit (tries + 1))) (tries + 1) ∧ Mod (· = b) w w' := by
  unfold Rt at h
  have hc := h.cell
  have hf := h.free
  have h5 := h.set 5 (.int .i64 (tries + 1))
  by_cases hm0 : 0 < most
  · have hm1 : tries + 1 ≤ most := by omega
    clear hm
    go_enter Try.func17, Try.ntmps17
    go_wp2
    go_quiet (fail)
    go_wp2
    refine region_quiet_tail 16 (by kernel_rfl) (by kernel_rfl) ?_
    simp only [List.take_succ_cons, List.take_zero, List.drop_succ_cons, List.drop_zero]
    repeat (go_big_quiet_step (first | (go_at_call 8; refine (refDelayW _ _ _ _).mono ?_; rintro e w' ⟨rfl, rfl⟩; exact ⟨rfl, _, rfl⟩) | (go_at_call 22; refine (refAdd _ _ _).mono ?_; rintro e w' ⟨rfl, rfl⟩; exact ⟨rfl, _, rfl⟩)))
    refine wpQuiet_nil ?_
    intro _ hw'
    obtain ⟨nq2, hw''⟩ := hw'
    subst hw''
    go_wp2
    go_ret2
    exact ⟨rfl, (h5.drewN _).set 4 _, (((Mod.refl _ _).set1 5 _).drewN _).set1 4 _⟩
  · clear hm
    have hd : decide (0 < most) = false := by simpa using hm0
    go_enter Try.func17, Try.ntmps17
    go_wp2
    go_quiet (fail)
    go_wp2
    refine region_quiet_tail 16 (by kernel_rfl) (by kernel_rfl) ?_
    simp only [List.take_succ_cons, List.take_zero, List.drop_succ_cons, List.drop_zero]
    repeat (go_big_quiet_step (first | (go_at_call 8; refine (refDelayW _ _ _ _).mono ?_; rintro e w' ⟨rfl, rfl⟩; exact ⟨rfl, _, rfl⟩) | (go_at_call 22; refine (refAdd _ _ _).mono ?_; rintro e w' ⟨rfl, rfl⟩; exact ⟨rfl, _, rfl⟩)))
    refine wpQuiet_nil ?_
    intro _ hw'
    obtain ⟨nq2, hw''⟩ := hw'
    subst hw''
    go_wp2
    go_ret2
    exact ⟨rfl, (h5.drewN _).set 4 _, (((Mod.refl _ _).set1 5 _).drewN _).set1 4 _⟩
/-- Due, and no try is left. -/
theorem refFiredLate (b : Nat) (base limit most : Int) (at_ tries : Int) (now : Int) (w : World) (h : Rt w b base limit most true at_ tries) (hn : ¬ now < at_) (ht : 0 ≤ tries) (ht2 : tries < 9223372036854775807) (hm0 : 0 < most) (hm1 : most < tries + 1) :
    Calls Try.prog 17 #[.pointer (some ⟨b, 0, none⟩), .int .i64 now] w fun e w' => e = .returned (.tuple #[.bool false, .int .i64 8]) ∧ Rt w' b base limit most false at_ (tries + 1) ∧ Mod (· = b) w w' := by
  unfold Rt at h
  have hc := h.cell
  have hf := h.free
  have h5 := h.set 5 (.int .i64 (tries + 1))
  go_enter Try.func17, Try.ntmps17
  go_wp2
  go_quiet (fail)
  go_wp2
  go_ret2
  exact ⟨rfl, (h5.drewN _).set 3 _, (((Mod.refl _ _).set1 5 _).drewN _).set1 3 _⟩
theorem awakeW (w : World) :
    Calls Try.prog 10 #[] w fun e w' => e = .returned (.bool true) ∧ Mod (fun _ => False) w w' := by
  have e1 : delayZ 2 10 3 = 10 := by decide
  have e2 : delayZ 2 10 0 = 2 := by decide
  have e3 : addZ 1 2 = 3 := by decide
  go_enter Try.func10, Try.ntmps10
  go_wp2_with fail
  refine (newW 2 10 0 _ (by omega)).mono ?_
  rintro e w1 ⟨rfl, h1, m1⟩
  go_wp2_with fail
  refine (newNo 3 2 0 _ (by omega)).mono ?_
  rintro e w2 ⟨rfl, rfl⟩
  go_wp2_with fail
  refine (startW _ _ _ _ _ _ _ 1 _ h1).mono ?_
  rintro e w2 ⟨rfl, h2, m2⟩
  rw [e2, e3] at h2
  go_wp2_with fail
  refine (atW _ _ _ _ _ _ _ _ h2).mono ?_
  rintro e w3 ⟨rfl, rfl⟩
  go_wp2_with fail
  refine (delayW 2 10 3 (by omega) _).mono ?_
  rintro e w3 ⟨rfl, rfl⟩
  go_wp2
  go_ret
  exact ⟨by simp, m1.trans m2 (fun i hi h => by omega)⟩
end Go.Proofs.Ytjpibhgdeljihaa
