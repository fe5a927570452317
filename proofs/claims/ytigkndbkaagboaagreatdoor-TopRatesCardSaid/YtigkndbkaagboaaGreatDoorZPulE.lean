/- Pulls of one to eight that wait: run by the evaluator. -/
import Derived.Test.YtigkndbkaagboaaGreatDoorZG3
namespace Go.Proofs.YtigkndbkaagboaaGreatDoor
open Go.Proofs.YtigkndbkaagboaaGreatDoor.Ev Go.RowKit
open Go hiding Obj
set_option linter.unusedVariables false
noncomputable def qE : Value := .pointer (some ⟨0, 0, none⟩)
noncomputable def pulNew : RS := runF 16 [.int .i64 10] S0
noncomputable def wantV (p : Nat) : List Value := [qE, .int .i64 (Int.ofNat p), .int .u64 1, .int .i64 2]
noncomputable def nextV (N i : Nat) : Value := .tuple ⟨[.int .i64 (Int.ofNat (Nat.mod i N)), .int .u64 1, .int .i64 (Int.ofNat (Nat.add 1 (Nat.div i N))), .bool true]⟩
/-- Does a call answer so? Then go on. -/
noncomputable def andThen (x : RS) (v : Value) (k : St → Bool) : Bool := @Option.rec (Value × St) (fun _ => Bool) false (fun p => @Prod.rec Value St (fun _ => Bool) (fun u S => ifB (veq u v) (k S) false) p) x
theorem andThen_true {x : RS} {v : Value} {k : St → Bool} (h : andThen x v k = true) : ∃ S, x = some (v, S) ∧ k S = true := by
  cases x with
  | none => cases h
  | some p =>
    obtain ⟨u, S⟩ := p
    have h : ifB (veq u v) (k S) false = true := h
    rw [ifB_eq] at h
    cases hb : veq u v with
    | false => rw [hb] at h; cases h
    | true =>
      rw [hb] at h
      exact ⟨S, by rw [veq_eq hb], h⟩
noncomputable def nextsOk (N : Nat) (k : Nat) : Nat → St → Bool :=
  @Nat.rec (fun _ => Nat → St → Bool) (fun _ S => andThen (runF 19 [qE] S) (.int .i64 0) fun _ => true)
    (fun _ ih i S => andThen (runF 18 [qE] S) (nextV N i) fun S' => ih (Nat.add i 1) S') k
noncomputable def wantsOk (N : Nat) (k : Nat) : Nat → St → Bool :=
  @Nat.rec (fun _ => Nat → St → Bool) (fun _ S => nextsOk N (Nat.mul 2 N) 0 S)
    (fun _ ih p S => andThen (runF 17 (wantV p) S) (.int .i64 0) fun S' => ih (Nat.add p 1) S') k
noncomputable def pulAll : Bool := andThen pulNew (.tuple ⟨[qE, .int .i64 0]⟩) fun S => (List.range 8).all fun k => wantsOk (k + 1) (k + 1) 0 S
theorem pul_runs : pulAll = true := by kernel_rfl
theorem pul_new : ∃ S, pulNew = some (.tuple ⟨[qE, .int .i64 0]⟩, S) ∧ ∀ N, 1 ≤ N → N ≤ 8 → wantsOk N N 0 S = true := by
  obtain ⟨S, h1, h2⟩ := andThen_true pul_runs
  refine ⟨S, h1, fun N n1 n8 => ?_⟩
  obtain ⟨k, rfl⟩ : ∃ k, N = k + 1 := ⟨N - 1, by omega⟩
  exact List.all_eq_true.1 h2 k (List.mem_range.2 (by omega))
/-- A queue of pulls that the evaluator knows; q is where it lies. -/
def PulAt (w0 : World) (S : St) (q : Value) (w : World) : Prop := ∃ r, Fr r0 S0 w0 r S w ∧ 0 < r.n ∧ q = .pointer (some ⟨r.μ 0, 0 + r.δ 0, none⟩)
theorem PulAt.step {w0 : World} {S S' : St} {q : Value} {w : World} (h : PulAt w0 S q w) {f : FuncId} {ar : List Value} {v : Value} (ha : ar.all plain = true) (hv : plain v = true) (hr : runF f (qE :: ar) S = some (v, S')) :
    Calls Tryz.prog f ⟨q :: ar⟩ w fun e w' => e = .returned v ∧ PulAt w0 S' q w' := by
  obtain ⟨r, hf, hn, rfl⟩ := h
  refine (callF_sound (Checked.mixed Tryz.checked) prE_ok tab_ok 5000 hr hf.rel (.cons (.ptr 0 0 hn) (VRs.pl ha))).mono ?_
  rintro e w' ⟨r', v', rfl, f1, f2⟩
  refine ⟨by rw [f2.plain_eq hv], r', hf.trans f1, Nat.lt_of_lt_of_le hn f1.le.1, ?_⟩
  rw [(f1.le.2 0 hn).1, (f1.le.2 0 hn).2.1]
theorem PulAt.below {w0 : World} {S : St} {q : Value} {w : World} (h : PulAt w0 S q w) : Below w0.heap.size w0 w := by
  obtain ⟨r, hf, _⟩ := h
  exact fr0_below hf
theorem pulNewW (w : World) (hG : GlOk w) : ∃ S, (∀ N, 1 ≤ N → N ≤ 8 → wantsOk N N 0 S = true) ∧ Calls Tryz.prog 16 #[.int .i64 10] w fun e w' => ∃ q, e = .returned (.tuple #[q, .int .i64 0]) ∧ (∃ g, q = .pointer (some g)) ∧ PulAt w S q w' := by
  obtain ⟨S, h1, h2⟩ := pul_new
  refine ⟨S, h2, ?_⟩
  have h1' : runF 16 [.int .i64 10] S0 = some (.tuple ⟨[qE, .int .i64 0]⟩, S) := h1
  refine (callF_sound (Checked.mixed Tryz.checked) prE_ok tab_ok 5000 h1' (rel0 w hG) (VRs.pl (xs := [.int .i64 10]) rfl)).mono ?_
  rintro e w' ⟨r', v', rfl, f1, f2⟩
  cases f2 with
  | sc _ hsc => simp [scalar] at hsc
  | tuple h =>
    obtain ⟨y, z, rfl, h3, h4⟩ := VRs.two h
    cases h3 with
    | sc _ hsc => simp [qE, scalar] at hsc
    | ptr _ _ hn => exact ⟨_, by rw [h4.sc_eq rfl], ⟨_, rfl⟩, r', f1, hn, rfl⟩
/-- One that waits for two pulls. -/
theorem wantW {w0 : World} {N k p : Nat} {S : St} {q : Value} {w : World} (h : PulAt w0 S q w) (hw : wantsOk N (k + 1) p S = true) : ∃ S', wantsOk N k (p + 1) S' = true ∧
    Calls Tryz.prog 17 #[q, .int .i64 (p : Int), .int .u64 1, .int .i64 2] w fun e w' => e = .returned (.int .i64 0) ∧ PulAt w0 S' q w' := by
  obtain ⟨S', h1, h2⟩ := andThen_true (show andThen (runF 17 (wantV p) S) (.int .i64 0) (fun S' => wantsOk N k (Nat.add p 1) S') = true from hw)
  exact ⟨S', h2, h.step (ar := [.int .i64 (Int.ofNat p), .int .u64 1, .int .i64 2]) rfl rfl h1⟩
theorem wants_end {N p : Nat} {S : St} (hw : wantsOk N 0 p S = true) : nextsOk N (2 * N) 0 S = true := hw
theorem nextW {w0 : World} {N k i : Nat} {S : St} {q : Value} {w : World} (h : PulAt w0 S q w) (hw : nextsOk N (k + 1) i S = true) : ∃ S', nextsOk N k (i + 1) S' = true ∧
    Calls Tryz.prog 18 #[q] w fun e w' => e = .returned (.tuple #[.int .i64 ((i % N : Nat) : Int), .int .u64 1, .int .i64 ((1 + i / N : Nat) : Int), .bool true]) ∧ PulAt w0 S' q w' := by
  obtain ⟨S', h1, h2⟩ := andThen_true (show andThen (runF 18 [qE] S) (nextV N i) (fun S' => nextsOk N k (Nat.add i 1) S') = true from hw)
  exact ⟨S', h2, h.step (ar := []) rfl rfl h1⟩
theorem lenW {w0 : World} {N i : Nat} {S : St} {q : Value} {w : World} (h : PulAt w0 S q w) (hw : nextsOk N 0 i S = true) :
    Calls Tryz.prog 19 #[q] w fun e w' => e = .returned (.int .i64 0) ∧ Below w0.heap.size w0 w' := by
  obtain ⟨S', h1, _⟩ := andThen_true (show andThen (runF 19 [qE] S) (.int .i64 0) (fun _ => true) = true from hw)
  exact (h.step (ar := []) rfl rfl h1).mono fun e w' ⟨he, hp⟩ => ⟨he, hp.below⟩
end Go.Proofs.YtigkndbkaagboaaGreatDoor
