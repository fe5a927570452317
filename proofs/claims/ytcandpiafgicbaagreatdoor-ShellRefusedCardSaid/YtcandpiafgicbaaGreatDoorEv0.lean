/- The evaluator's fast shape: whole numbers. -/
import Derived.Test.YtcandpiafgicbaaGreatDoorEvZ
namespace Go.Proofs.YtcandpiafgicbaaGreatDoor.Ev
open Go hiding Obj
set_option linter.unusedVariables false
set_option linter.unusedSimpArgs false
set_option linter.unusedSectionVars false
variable [Gl]
/-- A natural number, as a number of a kind. -/
noncomputable def wrapW (k : IntKind) : W (Nat → Option Int) :=
  @IntKind.rec (fun _ => W (Nat → Option Int)) ⟨fun _ => none⟩ ⟨fun _ => none⟩ ⟨fun _ => none⟩ ⟨fun n => ifB (Nat.ble (Nat.succ n) 9223372036854775808) (some (Int.ofNat n)) none⟩
    ⟨fun n => forceN (Nat.mod n 256) fun m => some (Int.ofNat m)⟩ ⟨fun _ => none⟩ ⟨fun _ => none⟩ ⟨fun n => forceN (Nat.mod n 18446744073709551616) fun m => some (Int.ofNat m)⟩ k
noncomputable def natW (k : IntKind) (n : Nat) : Option Value := @W.rec (Nat → Option Int) (fun _ => Option Value) (fun f => ob (f n) fun m => some (.int k m)) (wrapW k)
theorem natW_some {k : IntKind} {n : Nat} {v : Value} (h : natW k n = some v) : v = .int k (k.wrap (Int.ofNat n)) := by
  cases k with
  | i64 =>
    have h : ob (ifB (Nat.ble (Nat.succ n) 9223372036854775808) (some (Int.ofNat n)) none) (fun m => some (Value.int .i64 m)) = some v := h
    obtain ⟨m, h1, h2⟩ := ob_some h
    obtain ⟨h3, h4⟩ := ifB_some h1
    have h3 := Nat.le_of_ble_eq_true h3
    injection h4 with h4
    injection h2 with h2
    subst h4; subst h2
    congr 1
    simp [IntKind.wrap, IntKind.bits, IntKind.signed]
    omega
  | u8 =>
    have h : ob (forceN (Nat.mod n 256) fun m => some (Int.ofNat m)) (fun m => some (Value.int .u8 m)) = some v := h
    rw [forceN_eq] at h
    obtain ⟨m, h1, h2⟩ := ob_some h
    injection h1 with h1
    injection h2 with h2
    subst h1; subst h2
    congr 1
  | u64 =>
    have h : ob (forceN (Nat.mod n 18446744073709551616) fun m => some (Int.ofNat m)) (fun m => some (Value.int .u64 m)) = some v := h
    rw [forceN_eq] at h
    obtain ⟨m, h1, h2⟩ := ob_some h
    injection h1 with h1
    injection h2 with h2
    subst h1; subst h2
    congr 1
  | _ => cases h
/-- A number below nought. -/
noncomputable def negW (k : IntKind) (d : Nat) : Option Value :=
  @IntKind.rec (fun _ => Nat → Option Value) (fun _ => none) (fun _ => none) (fun _ => none) (fun d => ifB (Nat.ble d 9223372036854775808) (forceN (Nat.sub d 1) fun e => some (.int .i64 (Int.negSucc e))) none)
    (fun _ => none) (fun _ => none) (fun _ => none) (fun _ => none) k d
theorem negW_some {k : IntKind} {d : Nat} {v : Value} (hd : 0 < d) (h : negW k d = some v) : v = .int k (k.wrap (-(d : Int))) := by
  cases k with
  | i64 =>
    have h : ifB (Nat.ble d 9223372036854775808) (forceN (Nat.sub d 1) fun e => some (Value.int .i64 (Int.negSucc e))) none = some v := h
    obtain ⟨h3, h4⟩ := ifB_some h
    rw [forceN_eq] at h4
    have h3 := Nat.le_of_ble_eq_true h3
    injection h4 with h4
    subst h4
    congr 1
    simp [IntKind.wrap, IntKind.bits, IntKind.signed]
    obtain ⟨e, rfl⟩ : ∃ e, d = e + 1 := ⟨d - 1, by omega⟩
    have e1 : e + 1 - 1 = e := by omega
    rw [e1, Int.negSucc_eq]
    split <;> omega
  | _ => cases h
noncomputable def kidx (k : IntKind) : Nat := @IntKind.rec (fun _ => Nat) 0 1 2 3 4 5 6 7 k
theorem kidx_eq {k l : IntKind} (h : Nat.beq (kidx k) (kidx l) = true) : k = l := by
  cases k <;> cases l <;> first | rfl | cases h
/-- Of 64 bits? -/
noncomputable def k64 (k : IntKind) : Bool := @IntKind.rec (fun _ => Bool) false false false true false false false true k
theorem k64_bits {k : IntKind} (h : k64 k = true) : k.bits = 64 := by cases k <;> first | rfl | cases h
noncomputable def ku64 (k : IntKind) : Bool := @IntKind.rec (fun _ => Bool) false false false false false false false true k
theorem ku64_eq {k : IntKind} (h : ku64 k = true) : k = .u64 := by cases k <;> first | rfl | cases h
noncomputable def boolV (b : Bool) : Option Value := some (.bool b)
/-- Two natural numbers. -/
noncomputable def natBin (op : BinOp) : W (IntKind → Nat → Nat → Option Value) :=
  @BinOp.rec (fun _ => W (IntKind → Nat → Nat → Option Value))
    ⟨fun k x y => natW k (Nat.add x y)⟩
    ⟨fun k x y => ifB (Nat.ble y x) (natW k (Nat.sub x y)) (negW k (Nat.sub y x))⟩
    ⟨fun k x y => natW k (Nat.mul x y)⟩
    ⟨fun _ _ _ => none⟩ ⟨fun _ _ _ => none⟩
    ⟨fun k x y => ifB (ku64 k) (natW k (Nat.land x y)) none⟩
    ⟨fun k x y => ifB (ku64 k) (natW k (Nat.lor x y)) none⟩
    ⟨fun _ _ _ => none⟩
    ⟨fun k x y => ifB (k64 k) (ifB (Nat.ble y 64) (natW k (Nat.mul x (Nat.pow 2 y))) none) none⟩
    ⟨fun k x y => ifB (k64 k) (ifB (Nat.ble y 64) (forceN (Nat.div x (Nat.pow 2 y)) fun m => some (.int k (Int.ofNat m))) none) none⟩
    ⟨fun _ _ _ => none⟩
    ⟨fun _ x y => boolV (Nat.beq x y)⟩
    ⟨fun _ x y => boolV (ifB (Nat.beq x y) false true)⟩
    ⟨fun _ x y => boolV (Nat.ble (Nat.succ x) y)⟩
    ⟨fun _ x y => boolV (Nat.ble x y)⟩
    ⟨fun _ x y => boolV (Nat.ble (Nat.succ y) x)⟩
    ⟨fun _ x y => boolV (Nat.ble y x)⟩ op
/-- The first number is (or is not) below nought, the other is not (or is). -/
noncomputable def sgnBin (op : BinOp) : W (Bool → Option Value) :=
  @BinOp.rec (fun _ => W (Bool → Option Value)) ⟨fun _ => none⟩ ⟨fun _ => none⟩ ⟨fun _ => none⟩ ⟨fun _ => none⟩ ⟨fun _ => none⟩ ⟨fun _ => none⟩ ⟨fun _ => none⟩ ⟨fun _ => none⟩ ⟨fun _ => none⟩ ⟨fun _ => none⟩ ⟨fun _ => none⟩
    ⟨fun _ => boolV false⟩ ⟨fun _ => boolV true⟩ ⟨fun b => boolV b⟩ ⟨fun b => boolV b⟩ ⟨fun b => boolV (ifB b false true)⟩ ⟨fun b => boolV (ifB b false true)⟩ op
noncomputable def intBin (op : BinOp) (k : IntKind) (a b : Int) : Option Value :=
  @Int.rec (fun _ => BinOp → IntKind → Int → Option Value)
    (fun x op k b => @Int.rec (fun _ => BinOp → IntKind → Nat → Option Value) (fun y op k x => @W.rec (IntKind → Nat → Nat → Option Value) (fun _ => Option Value) (fun f => f k x y) (natBin op))
      (fun _ op _ _ => @W.rec (Bool → Option Value) (fun _ => Option Value) (fun f => f false) (sgnBin op)) b op k x)
    (fun _ op _ b => @Int.rec (fun _ => BinOp → Option Value) (fun _ op => @W.rec (Bool → Option Value) (fun _ => Option Value) (fun f => f true) (sgnBin op)) (fun _ _ => none) b op) a op k b
noncomputable def intOf (v : Value) : Option (IntKind × Int) :=
  @Value.rec (fun _ => Option (IntKind × Int)) (fun _ => PUnit) (fun _ => PUnit) (fun _ => none) (fun k n => some (k, n)) (fun _ _ => none) (fun _ _ _ => none) (fun _ => none)
    (fun _ => none) (fun _ _ _ => none) (fun _ => none) (fun _ => none) (fun _ _ _ _ _ => none) none (fun _ _ _ => none) none (fun _ _ => none) (fun _ _ => none) (fun _ _ => ⟨⟩) ⟨⟩ (fun _ _ _ _ => ⟨⟩) v
theorem intOf_some {v : Value} {q : IntKind × Int} (h : intOf v = some q) : v = .int q.1 q.2 := by
  cases v with
  | int k n =>
    have h : some (k, n) = some q := h
    injection h with h
    subst h; rfl
  | _ => cases h
noncomputable def binF (op : BinOp) (a b : Value) : Option Value := ob (intOf a) fun p => ob (intOf b) fun q => ifB (Nat.beq (kidx p.1) (kidx q.1)) (intBin op p.1 p.2 q.2) none
theorem pw (a b : Nat) : Nat.pow a b = a ^ b := rfl
theorem shl_run {P : Program} {k : IntKind} {x y : Nat} (hk : k.bits = 64) (hy : y ≤ 64) : pureRun P (Op.shift .shl k (Int.ofNat x) k (Int.ofNat y)) = some (.int k (k.wrap (Int.ofNat (x * 2 ^ y)))) := by
  have h0 : ¬ (Int.ofNat y < 0) := by simp
  have h1 : min (Int.ofNat y).toNat k.bits = y := by rw [hk]; simp; omega
  simp only [Op.shift, if_neg h0, h1]
  have h2 : Int.ofNat x * 2 ^ y = Int.ofNat (x * 2 ^ y) := by simp
  rw [h2]
  rfl
theorem shr_run {P : Program} {k : IntKind} {x y : Nat} (hk : k.bits = 64) (hy : y ≤ 64) : pureRun P (Op.shift .shr k (Int.ofNat x) k (Int.ofNat y)) = some (.int k (Int.ofNat (x / 2 ^ y))) := by
  have h0 : ¬ (Int.ofNat y < 0) := by simp
  have h1 : min (Int.ofNat y).toNat k.bits = y := by rw [hk]; simp; omega
  simp only [Op.shift, if_neg h0, h1]
  have h2 : (Int.ofNat x).fdiv (2 ^ y) = Int.ofNat (x / 2 ^ y) := by
    have h3 : (2 : Int) ^ y = Int.ofNat (2 ^ y) := by simp
    rw [h3]
    cases x with
    | zero => simp [Int.fdiv]
    | succ x => rfl
  rw [h2]
  rfl
theorem bits_and {x y : Nat} : IntKind.u64.wrap (((BitVec.ofInt 64 (Int.ofNat x) &&& BitVec.ofInt 64 (Int.ofNat y)).toNat : Nat) : Int) = IntKind.u64.wrap (Int.ofNat (Nat.land x y)) := by
  have e : ∀ z : Nat, BitVec.ofInt 64 (Int.ofNat z) = BitVec.ofNat 64 z := fun z => by simp
  have key : (x % 2 ^ 64 &&& y % 2 ^ 64) % 2 ^ 64 = (x &&& y) % 2 ^ 64 := by rw [← Nat.and_mod_two_pow, Nat.mod_mod]
  rw [show (2 : Nat) ^ 64 = 18446744073709551616 from rfl] at key
  rw [e, e]
  simp [IntKind.wrap, IntKind.bits, IntKind.signed]
  have e2 : Nat.land x y = x &&& y := rfl
  omega
theorem bits_or {x y : Nat} : IntKind.u64.wrap (((BitVec.ofInt 64 (Int.ofNat x) ||| BitVec.ofInt 64 (Int.ofNat y)).toNat : Nat) : Int) = IntKind.u64.wrap (Int.ofNat (Nat.lor x y)) := by
  have e : ∀ z : Nat, BitVec.ofInt 64 (Int.ofNat z) = BitVec.ofNat 64 z := fun z => by simp
  have key : (x % 2 ^ 64 ||| y % 2 ^ 64) % 2 ^ 64 = (x ||| y) % 2 ^ 64 := by rw [← Nat.or_mod_two_pow, Nat.mod_mod]
  rw [show (2 : Nat) ^ 64 = 18446744073709551616 from rfl] at key
  rw [e, e]
  simp [IntKind.wrap, IntKind.bits, IntKind.signed]
  have e2 : Nat.lor x y = x ||| y := rfl
  omega
section
variable {P : Program}
theorem pureRun_then {α β : Type} : ∀ {s : Sem α} {f : α → Sem β} {a : α}, pureRun P s = some a → pureRun P (s.bind f) = pureRun P (f a)
  | .pure _, f, b, h => by simp only [pureRun, Option.some.injEq] at h; subst h; rfl
  | .program k, f, b, h => by simp only [Sem.bind, pureRun] at h ⊢; exact pureRun_then (s := k P) h
  | .mark _ k, f, b, h => by simp only [Sem.bind, pureRun] at h ⊢; exact pureRun_then (s := k) h
  | .load .., _, _, h => by simp [pureRun] at h
  | .store .., _, _, h => by simp [pureRun] at h
  | .new .., _, _, h => by simp [pureRun] at h
  | .shape .., _, _, h => by simp [pureRun] at h
  | .freeze .., _, _, h => by simp [pureRun] at h
  | .frozen .., _, _, h => by simp [pureRun] at h
  | .getObj .., _, _, h => by simp [pureRun] at h
  | .setObj .., _, _, h => by simp [pureRun] at h
  | .choose .., _, _, h => by simp [pureRun] at h
  | .sys .., _, _, h => by simp [pureRun] at h
  | .halt _, _, _, h => by simp [pureRun] at h
theorem pureRun_guard {op : BinOp} {t : TypeId} {x y : Operand} {k l : IntKind} {a b : Int} : pureRun P (eqGuard op t x y (.int k a) (.int l b)) = some () := by
  cases op <;> rfl
theorem intCmp_run {op : BinOp} {a b : Int} {v : Value} (h : Op.intCmp op a b = pure v) : pureRun P (Op.intCmp op a b) = some v := by rw [h]; rfl
/-- Two numbers of a kind. -/
theorem binOp_run {op : BinOp} {t : TypeId} {k : IntKind} {a b : Int} {v : Value} (h : intBin op k a b = some v) : pureRun P (binOp op t (.int k a) (.int k b)) = some v ∧ plain v = true := by
  have nat : ∀ (n : Nat) (v : Value), natW k n = some v → v = .int k (k.wrap (Int.ofNat n)) ∧ plain v = true := fun n v hv => by
    have := natW_some hv
    subst this
    exact ⟨rfl, rfl⟩
  cases a with
  | ofNat x =>
    cases b with
    | ofNat y =>
      cases op with
      | add =>
        obtain ⟨h1, h2⟩ := nat _ v h
        refine ⟨?_, h2⟩
        subst h1
        simp [binOp, Op.intArith, pureRun]
        rfl
      | sub =>
        have h : ifB (Nat.ble y x) (natW k (Nat.sub x y)) (negW k (Nat.sub y x)) = some v := h
        rw [ifB_eq] at h
        cases hc : Nat.ble y x with
        | true =>
          rw [hc] at h
          have hc := Nat.le_of_ble_eq_true hc
          obtain ⟨h1, h2⟩ := nat _ v h
          refine ⟨?_, h2⟩
          subst h1
          have e : (Int.ofNat x - Int.ofNat y) = Int.ofNat (Nat.sub x y) := by
            have : Nat.sub x y = x - y := rfl
            rw [this]
            simp
            omega
          simp [binOp, Op.intArith]
          rw [show (x : Int) - (y : Int) = Int.ofNat (Nat.sub x y) from e]
          rfl
        | false =>
          rw [hc] at h
          have hc' : ¬ y ≤ x := fun e => by rw [Nat.ble_eq_true_of_le e] at hc; cases hc
          have h1 := negW_some (k := k) (d := Nat.sub y x) (v := v) (by show 0 < y - x; omega) h
          subst h1
          refine ⟨?_, rfl⟩
          have e : (x : Int) - (y : Int) = -((Nat.sub y x : Nat) : Int) := by
            have : Nat.sub y x = y - x := rfl
            rw [this]
            omega
          simp [binOp, Op.intArith]
          rw [e]
          rfl
      | mul =>
        obtain ⟨h1, h2⟩ := nat _ v h
        refine ⟨?_, h2⟩
        subst h1
        simp [binOp, Op.intArith, pureRun]
        rfl
      | and =>
        have h : ifB (ku64 k) (natW k (Nat.land x y)) none = some v := h
        obtain ⟨h1, h⟩ := ifB_some h
        obtain rfl := ku64_eq h1
        obtain ⟨h1, h2⟩ := nat _ v h
        refine ⟨?_, h2⟩
        subst h1
        rw [← bits_and]
        rfl
      | or =>
        have h : ifB (ku64 k) (natW k (Nat.lor x y)) none = some v := h
        obtain ⟨h1, h⟩ := ifB_some h
        obtain rfl := ku64_eq h1
        obtain ⟨h1, h2⟩ := nat _ v h
        refine ⟨?_, h2⟩
        subst h1
        rw [← bits_or]
        rfl
      | shl =>
        have h : ifB (k64 k) (ifB (Nat.ble y 64) (natW k (Nat.mul x (Nat.pow 2 y))) none) none = some v := h
        obtain ⟨h1, h⟩ := ifB_some h
        obtain ⟨h3, h⟩ := ifB_some h
        obtain ⟨h4, h2⟩ := nat _ v h
        refine ⟨?_, h2⟩
        subst h4
        exact shl_run (k64_bits h1) (Nat.le_of_ble_eq_true h3)
      | shr =>
        have h : ifB (k64 k) (ifB (Nat.ble y 64) (forceN (Nat.div x (Nat.pow 2 y)) fun m => some (Value.int k (Int.ofNat m))) none) none = some v := h
        obtain ⟨h1, h⟩ := ifB_some h
        obtain ⟨h3, h⟩ := ifB_some h
        rw [forceN_eq] at h
        injection h with h
        subst h
        exact ⟨shr_run (k64_bits h1) (Nat.le_of_ble_eq_true h3), rfl⟩
      | eql =>
        have h : some (Value.bool (Nat.beq x y)) = some v := h
        injection h with h
        subst h
        refine ⟨?_, rfl⟩
        have : (Int.ofNat x == Int.ofNat y) = Nat.beq x y := by
          cases hb : Nat.beq x y with
          | true => have := Nat.eq_of_beq_eq_true hb; subst this; simp
          | false => have := Nat.ne_of_beq_eq_false hb; simp; omega
        simp only [binOp, ne_eq, not_true_eq_false, if_false, Op.intCmp, this]
        rfl
      | neq =>
        have h : some (Value.bool (ifB (Nat.beq x y) false true)) = some v := h
        injection h with h
        subst h
        refine ⟨?_, rfl⟩
        have : (Int.ofNat x != Int.ofNat y) = ifB (Nat.beq x y) false true := by
          cases hb : Nat.beq x y with
          | true => have := Nat.eq_of_beq_eq_true hb; subst this; simp [ifB_eq]
          | false => have := Nat.ne_of_beq_eq_false hb; simp [ifB_eq]; omega
        simp only [binOp, ne_eq, not_true_eq_false, if_false, Op.intCmp, this]
        rfl
      | lss =>
        have h : some (Value.bool (Nat.ble (Nat.succ x) y)) = some v := h
        injection h with h
        subst h
        refine ⟨?_, rfl⟩
        have : decide (Int.ofNat x < Int.ofNat y) = Nat.ble (Nat.succ x) y := by
          rw [Bool.eq_iff_iff]; simp; omega
        simp only [binOp, ne_eq, not_true_eq_false, if_false, Op.intCmp, this]
        rfl
      | leq =>
        have h : some (Value.bool (Nat.ble x y)) = some v := h
        injection h with h
        subst h
        refine ⟨?_, rfl⟩
        have : decide (Int.ofNat x ≤ Int.ofNat y) = Nat.ble x y := by
          rw [Bool.eq_iff_iff]; simp
        simp only [binOp, ne_eq, not_true_eq_false, if_false, Op.intCmp, this]
        rfl
      | gtr =>
        have h : some (Value.bool (Nat.ble (Nat.succ y) x)) = some v := h
        injection h with h
        subst h
        refine ⟨?_, rfl⟩
        have : decide (Int.ofNat x > Int.ofNat y) = Nat.ble (Nat.succ y) x := by
          rw [Bool.eq_iff_iff]; simp; omega
        simp only [binOp, ne_eq, not_true_eq_false, if_false, Op.intCmp, this]
        rfl
      | geq =>
        have h : some (Value.bool (Nat.ble y x)) = some v := h
        injection h with h
        subst h
        refine ⟨?_, rfl⟩
        have : decide (Int.ofNat x ≥ Int.ofNat y) = Nat.ble y x := by
          rw [Bool.eq_iff_iff]; simp
        simp only [binOp, ne_eq, not_true_eq_false, if_false, Op.intCmp, this]
        rfl
      | _ => cases h
    | negSucc y =>
      have c1 : (Int.ofNat x == Int.negSucc y) = false := rfl
      have c2 : (Int.ofNat x != Int.negSucc y) = true := rfl
      have c3 : decide (Int.ofNat x < Int.negSucc y) = false := by simp; omega
      have c4 : decide (Int.ofNat x ≤ Int.negSucc y) = false := by simp; omega
      have c5 : decide (Int.ofNat x > Int.negSucc y) = true := by simp; omega
      have c6 : decide (Int.ofNat x ≥ Int.negSucc y) = true := by simp; omega
      cases op <;> first
        | (cases h; done)
        | (injection h with h
           subst h
           refine ⟨?_, rfl⟩
           simp only [binOp, ne_eq, not_true_eq_false, if_false, Op.intCmp, c1, c2, c3, c4, c5, c6]
           rfl)
  | negSucc x =>
    cases b with
    | ofNat y =>
      have c1 : (Int.negSucc x == Int.ofNat y) = false := rfl
      have c2 : (Int.negSucc x != Int.ofNat y) = true := rfl
      have c3 : decide (Int.negSucc x < Int.ofNat y) = true := by simp; omega
      have c4 : decide (Int.negSucc x ≤ Int.ofNat y) = true := by simp; omega
      have c5 : decide (Int.negSucc x > Int.ofNat y) = false := by simp; omega
      have c6 : decide (Int.negSucc x ≥ Int.ofNat y) = false := by simp; omega
      cases op <;> first
        | (cases h; done)
        | (injection h with h
           subst h
           refine ⟨?_, rfl⟩
           simp only [binOp, ne_eq, not_true_eq_false, if_false, Op.intCmp, c1, c2, c3, c4, c5, c6]
           rfl)
    | negSucc y => cases h
theorem binF_fbk {S : St} {ρ : Operand → Option Value} {o : Oper} {op : BinOp} {t u : TypeId} {x y : Operand} {a b v : Value} (ho : o.op = .binOp op t x y u) (hx : ρ x = some a) (hy : ρ y = some b) (h : binF op a b = some v) :
    plain a = true ∧ plain b = true ∧ fbk P S ρ o = some (.val v S) := by
  obtain ⟨p, h1, h⟩ := ob_some h
  obtain ⟨q, h2, h⟩ := ob_some h
  obtain ⟨h3, h6⟩ := ifB_some h
  obtain ⟨k, m⟩ := p
  obtain ⟨l, n⟩ := q
  have e1 : a = .int k m := intOf_some h1
  have e2 : b = .int l n := intOf_some h2
  subst e1; subst e2
  obtain rfl : k = l := kidx_eq h3
  obtain ⟨h4, h5⟩ := binOp_run (P := P) (t := t) h6
  refine ⟨rfl, rfl, ?_⟩
  unfold fbk
  have hpl : plainAll ρ o.op.operands.toList = true := by
    rw [ho]
    simp only [plainAll, Op.operands, List.all_cons, List.all_nil, hx, hy]
    rfl
  have hs : isSelect o.op = false := by rw [ho]; rfl
  rw [hpl, hs]
  have hrun : pureRun P (execOp (fun x => (ρ x).getD undef) o) = some (.value v) := by
    have e : execOp (fun x => (ρ x).getD undef) o = ((eqGuard op t x y (.int k m) (.int k n)).bind fun _ => binOp op t (.int k m) (.int k n)).bind fun a => pure (.value a) := by
      simp only [execOp, ho, hx, hy, Option.getD_some]
      rfl
    rw [e, pureRun_then (a := v)]
    · rfl
    · rw [pureRun_then pureRun_guard]
      exact h4
  rw [hrun]
  simp only [Bool.not_false, Bool.and_true, cond_true, h5]
end
end Go.Proofs.YtcandpiafgicbaaGreatDoor.Ev
