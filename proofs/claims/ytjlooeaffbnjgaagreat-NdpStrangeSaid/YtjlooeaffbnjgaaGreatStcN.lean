/- NdpStrange: its closed runs, one behind the other: two hosts, a message, and what becomes of them; run by the evaluator. -/
import Derived.Test.YtjlooeaffbnjgaaGreatKnE
namespace Go.Proofs.YtjlooeaffbnjgaaGreat
open Go.Proofs.YtjlooeaffbnjgaaGreat.Ev Go.RowKit
open Go hiding Obj
set_option linter.unusedVariables false
/-- The config that the statement lays. -/
abbrev cfgN : Value := .agg #[.int .i64 2, .int .i64 2, .int .i64 1, .int .i64 120, .int .i64 5, .int .i64 2, .int .i64 0, .int .i64 100000, .int .i64 10, .int .i64 6, .int .i64 10, .int .i64 20, .int .i64 0, .int .u64 1000]
/-- The thing that was made, if it was. -/
def madeOf : Value → Option Nat
  | .tuple ⟨[.pointer (some ⟨t, 0, none⟩), .bool true]⟩ => some t
  | _ => none
theorem madeOf_eq {v : Value} {t : Nat} (h : madeOf v = some t) : v = .tuple #[.pointer (some ⟨t, 0, none⟩), .bool true] := by
  unfold madeOf at h
  split at h
  · cases h; rfl
  · cases h
def numOf : Value → Option Int
  | .int .i64 n => some n
  | _ => none
theorem numOf_eq {v : Value} {n : Int} (h : numOf v = some n) : v = .int .i64 n := by
  unfold numOf at h
  split at h
  · cases h; rfl
  · cases h
def veqs : List Value → List Value → Bool
  | [], [] => true
  | x :: xs, y :: ys => veq x y && veqs xs ys
  | _, _ => false
theorem veqs_eq : ∀ {xs ys : List Value}, veqs xs ys = true → xs = ys
  | [], [], _ => rfl
  | x :: xs, y :: ys, h => by
    unfold veqs at h
    rw [Bool.and_eq_true] at h
    rw [veq_eq h.1, veqs_eq h.2]
  | [], _ :: _, h => by cases h
  | _ :: _, [], h => by cases h
def veq2 : Value → Value → Bool
  | .tuple ⟨xs⟩, .tuple ⟨ys⟩ => veqs xs ys
  | a, b => veq a b
theorem veq2_eq {a b : Value} (h : veq2 a b = true) : a = b := by
  unfold veq2 at h
  split at h
  · rw [veqs_eq h]
  · exact veq_eq h
noncomputable def ifO {β : Type} (b : Bool) (x : Option β) : Option β := ifB b x none
theorem ifO_some {β : Type} {b : Bool} {x : Option β} {y : β} (h : ifO b x = some y) : b = true ∧ x = some y := by
  cases b with
  | true => exact ⟨rfl, h⟩
  | false => cases h
/-- The chain of calls. -/
noncomputable def chainN (R : CallF) : Option Unit :=
  obp (R 16 [cfgN] S0) fun v S1 => ob (madeOf v) fun t => ob (idsOf S1 t) fun q => ifO (idsB S1 q && Nat.beq q.t t) (
  obp (R 17 (ptrV q.t :: [cfgN, .agg #[.int .i64 1, .int .i64 0, .int .i64 300]]) S1) fun v S2 => ifO (veq2 v (.bool true) && idsB S2 q) (
  obp (R 31 (ptrV q.c1 :: []) S2) fun v S3 => ifO (veq2 v (.tuple #[.int .i64 0, .int .i64 0]) && idsB S3 q) (
  obp (R 34 (ptrV q.c1 :: []) S3) fun v S4 => ifO (veq2 v (.tuple #[.agg #[.int .i64 0, .int .i64 0, .int .i64 0, .int .i64 0, .int .u64 0, .int .i64 0, .int .i64 0, .int .i64 0, .int .i64 0, .slice none 0 0], .bool false]) && idsB S4 q) (
  obp (R 25 (ptrV q.c1 :: []) S4) fun v S5 => ifO (veq2 v (.bool true) && idsB S5 q) (
  obp (R 22 (ptrV q.t :: [cfgN]) S5) fun v S6 => ob (numOf v) fun n => ifO (idsB S6 q) (
  obp (R 23 (ptrV q.t :: [.int .i64 120, .int .i64 n]) S6) fun v S7 => ifO (veq2 v (.bool true) && idsB S7 q) (
  obp (R 28 (ptrV q.c0 :: [.int .u64 1]) S7) fun v S8 => ifO (veq2 v (.int .i64 2) && idsB S8 q) (
  obp (R 18 (ptrV q.t :: []) S8) fun v S9 => ifO (veq2 v (.bool true) && idsB S9 q) (
  some ())))))))))
/-- What the chain says. -/
structure ChainN (R : CallF) (q : Ids) (n : Int) (S1 S2 S3 S4 S5 S6 S7 S8 S9 : St) : Prop where
  f1 : R 16 [cfgN] S0 = some (.tuple #[.pointer (some ⟨q.t, 0, none⟩), .bool true], S1)
  k1 : idsB S1 q = true
  f2 : R 17 (ptrV (Arg.id q .t) :: [cfgN, .agg #[.int .i64 1, .int .i64 0, .int .i64 300]]) S1 = some (.bool true, S2)
  k2 : idsB S2 q = true
  f3 : R 31 (ptrV (Arg.id q .c1) :: []) S2 = some (.tuple #[.int .i64 0, .int .i64 0], S3)
  k3 : idsB S3 q = true
  f4 : R 34 (ptrV (Arg.id q .c1) :: []) S3 = some (.tuple #[.agg #[.int .i64 0, .int .i64 0, .int .i64 0, .int .i64 0, .int .u64 0, .int .i64 0, .int .i64 0, .int .i64 0, .int .i64 0, .slice none 0 0], .bool false], S4)
  k4 : idsB S4 q = true
  f5 : R 25 (ptrV (Arg.id q .c1) :: []) S4 = some (.bool true, S5)
  k5 : idsB S5 q = true
  f6 : R 22 (ptrV (Arg.id q .t) :: [cfgN]) S5 = some (.int .i64 n, S6)
  k6 : idsB S6 q = true
  f7 : R 23 (ptrV (Arg.id q .t) :: [.int .i64 120, .int .i64 n]) S6 = some (.bool true, S7)
  k7 : idsB S7 q = true
  f8 : R 28 (ptrV (Arg.id q .c0) :: [.int .u64 1]) S7 = some (.int .i64 2, S8)
  k8 : idsB S8 q = true
  f9 : R 18 (ptrV (Arg.id q .t) :: []) S8 = some (.bool true, S9)
  k9 : idsB S9 q = true
theorem chainN_says {R : CallF} {u : Unit} (h : chainN R = some u) : ∃ q n S1 S2 S3 S4 S5 S6 S7 S8 S9, ChainN R q n S1 S2 S3 S4 S5 S6 S7 S8 S9 := by
  unfold chainN at h
  obtain ⟨v1, S1, f1, h1⟩ := obp_some h
  clear h
  obtain ⟨t, g1, h⟩ := ob_some h1
  clear h1
  obtain ⟨q, q1, h1⟩ := ob_some h
  clear h
  obtain ⟨k1, h⟩ := ifO_some h1
  clear h1
  obtain rfl := madeOf_eq g1
  rw [Bool.and_eq_true] at k1
  obtain rfl : q.t = t := Nat.eq_of_beq_eq_true k1.2
  obtain ⟨v2, S2, f2, h1⟩ := obp_some h
  clear h
  obtain ⟨k2, h⟩ := ifO_some h1
  clear h1
  rw [Bool.and_eq_true] at k2
  obtain rfl := veq2_eq k2.1
  obtain ⟨v3, S3, f3, h1⟩ := obp_some h
  clear h
  obtain ⟨k3, h⟩ := ifO_some h1
  clear h1
  rw [Bool.and_eq_true] at k3
  obtain rfl := veq2_eq k3.1
  obtain ⟨v4, S4, f4, h1⟩ := obp_some h
  clear h
  obtain ⟨k4, h⟩ := ifO_some h1
  clear h1
  rw [Bool.and_eq_true] at k4
  obtain rfl := veq2_eq k4.1
  obtain ⟨v5, S5, f5, h1⟩ := obp_some h
  clear h
  obtain ⟨k5, h⟩ := ifO_some h1
  clear h1
  rw [Bool.and_eq_true] at k5
  obtain rfl := veq2_eq k5.1
  obtain ⟨v6, S6, f6, h1⟩ := obp_some h
  clear h
  obtain ⟨n, g6, h2⟩ := ob_some h1
  clear h1
  obtain ⟨k6, h⟩ := ifO_some h2
  clear h2
  obtain rfl := numOf_eq g6
  obtain ⟨v7, S7, f7, h1⟩ := obp_some h
  clear h
  obtain ⟨k7, h⟩ := ifO_some h1
  clear h1
  rw [Bool.and_eq_true] at k7
  obtain rfl := veq2_eq k7.1
  obtain ⟨v8, S8, f8, h1⟩ := obp_some h
  clear h
  obtain ⟨k8, h⟩ := ifO_some h1
  clear h1
  rw [Bool.and_eq_true] at k8
  obtain rfl := veq2_eq k8.1
  obtain ⟨v9, S9, f9, h1⟩ := obp_some h
  clear h
  obtain ⟨k9, h⟩ := ifO_some h1
  clear h1
  rw [Bool.and_eq_true] at k9
  obtain rfl := veq2_eq k9.1
  exact ⟨q, n, S1, S2, S3, S4, S5, S6, S7, S8, S9, f1, k1.1, f2, k2.2, f3, k3.2, f4, k4.2, f5, k5.2, f6, k6, f7, k7.2, f8, k8.2, f9, k9.2⟩
theorem chainN_runs : (chainN runF).isSome = true := by kernel_rfl
theorem awN_runs : awT (runF 14 [] S0) = true := by kernel_rfl
theorem awakeN (w : World) : Calls Tryz.prog 14 #[] w fun e w' => e = .returned (.bool true) ∧ Mod (fun _ => False) w w' :=
  (awake_of awN_runs w (gl_any w)).mono fun _ _ ⟨h1, h2⟩ => ⟨h1, Mod.ofBelow h2⟩
theorem cfgN_runs : (match runF 15 [.int .i64 100, .int .i64 300, .int .i64 5, .int .i64 0, .int .i64 1] S0 with | some (v, _) => veq2 v cfgN | none => false) = true := by kernel_rfl
theorem configN (w : World) : Calls Tryz.prog 15 #[.int .i64 100, .int .i64 300, .int .i64 5, .int .i64 0, .int .i64 1] w fun e w' => e = .returned cfgN ∧ Mod (fun _ => False) w w' := by
  have h := cfgN_runs
  generalize hr : runF 15 [.int .i64 100, .int .i64 300, .int .i64 5, .int .i64 0, .int .i64 1] S0 = q at h
  cases q with
  | none => cases h
  | some p =>
    obtain ⟨v, S⟩ := p
    obtain rfl := veq2_eq h
    exact (closed_callA (Checked.mixed Tryz.checked) prE_ok tab_ok 5000 hr rfl rfl w (gl_any w)).mono fun _ _ ⟨h1, h2⟩ => ⟨h1, Mod.ofBelow h2⟩
/-- The calls of the statement, in their order. -/
structure SaysN (q : Ids) (n : Int) (S1 S2 S3 S4 S5 S6 S7 S8 S9 : St) : Prop where
  c1 : ∀ w, Calls Tryz.prog 16 #[cfgN] w fun e w' => ∃ a : Adr, e = .returned (.tuple #[.pointer (some ⟨a.t, 0, none⟩), .bool true]) ∧ TwoAt w.heap.size S1 q a w' ∧ Mod (fun _ => False) w w'
  c2 : ∀ (B : Nat) (a : Adr) (w : World), TwoAt B S1 q a w → Calls Tryz.prog 17 #[.pointer (some ⟨a.t, 0, none⟩), cfgN, .agg #[.int .i64 1, .int .i64 0, .int .i64 300]] w fun e w' => e = .returned (.bool true) ∧ TwoAt B S2 q a w' ∧ Mod (fun k => B ≤ k) w w'
  c3 : ∀ (B : Nat) (a : Adr) (w : World), TwoAt B S2 q a w → Calls Tryz.prog 31 #[.pointer (some ⟨a.c1, 0, none⟩)] w fun e w' => e = .returned (.tuple #[.int .i64 0, .int .i64 0]) ∧ TwoAt B S3 q a w' ∧ Mod (fun k => B ≤ k) w w'
  c4 : ∀ (B : Nat) (a : Adr) (w : World), TwoAt B S3 q a w → Calls Tryz.prog 34 #[.pointer (some ⟨a.c1, 0, none⟩)] w fun e w' => e = .returned (.tuple #[.agg #[.int .i64 0, .int .i64 0, .int .i64 0, .int .i64 0, .int .u64 0, .int .i64 0, .int .i64 0, .int .i64 0, .int .i64 0, .slice none 0 0], .bool false]) ∧ TwoAt B S4 q a w' ∧ Mod (fun k => B ≤ k) w w'
  c5 : ∀ (B : Nat) (a : Adr) (w : World), TwoAt B S4 q a w → Calls Tryz.prog 25 #[.pointer (some ⟨a.c1, 0, none⟩)] w fun e w' => e = .returned (.bool true) ∧ TwoAt B S5 q a w' ∧ Mod (fun k => B ≤ k) w w'
  c6 : ∀ (B : Nat) (a : Adr) (w : World), TwoAt B S5 q a w → Calls Tryz.prog 22 #[.pointer (some ⟨a.t, 0, none⟩), cfgN] w fun e w' => e = .returned (.int .i64 n) ∧ TwoAt B S6 q a w' ∧ Mod (fun k => B ≤ k) w w'
  c7 : ∀ (B : Nat) (a : Adr) (w : World), TwoAt B S6 q a w → Calls Tryz.prog 23 #[.pointer (some ⟨a.t, 0, none⟩), .int .i64 120, .int .i64 n] w fun e w' => e = .returned (.bool true) ∧ TwoAt B S7 q a w' ∧ Mod (fun k => B ≤ k) w w'
  c8 : ∀ (B : Nat) (a : Adr) (w : World), TwoAt B S7 q a w → Calls Tryz.prog 28 #[.pointer (some ⟨a.c0, 0, none⟩), .int .u64 1] w fun e w' => e = .returned (.int .i64 2) ∧ TwoAt B S8 q a w' ∧ Mod (fun k => B ≤ k) w w'
  c9 : ∀ (B : Nat) (a : Adr) (w : World), TwoAt B S8 q a w → Calls Tryz.prog 18 #[.pointer (some ⟨a.t, 0, none⟩)] w fun e w' => e = .returned (.bool true) ∧ TwoAt B S9 q a w' ∧ Mod (fun k => B ≤ k) w w'
theorem saysN : ∃ q n S1 S2 S3 S4 S5 S6 S7 S8 S9, SaysN q n S1 S2 S3 S4 S5 S6 S7 S8 S9 := by
  have h := chainN_runs
  generalize hc : chainN runF = u at h
  cases u with
  | none => cases h
  | some u =>
    obtain ⟨q, n, S1, S2, S3, S4, S5, S6, S7, S8, S9, C⟩ := chainN_says hc
    exact ⟨q, n, S1, S2, S3, S4, S5, S6, S7, S8, S9, {
      c1 := fun w => fresh_of C.f1 C.k1 rfl w
      c2 := fun B a w h => h.run .t C.f2 C.k2 rfl rfl
      c3 := fun B a w h => h.run .c1 C.f3 C.k3 rfl rfl
      c4 := fun B a w h => h.run .c1 C.f4 C.k4 rfl rfl
      c5 := fun B a w h => h.run .c1 C.f5 C.k5 rfl rfl
      c6 := fun B a w h => h.run .t C.f6 C.k6 rfl rfl
      c7 := fun B a w h => h.run .t C.f7 C.k7 rfl rfl
      c8 := fun B a w h => h.run .c0 C.f8 C.k8 rfl rfl
      c9 := fun B a w h => h.run .t C.f9 C.k9 rfl rfl
    }⟩
end Go.Proofs.YtjlooeaffbnjgaaGreat
