/- The evaluator's fast shape: operations. -/
import Derived.Test.YtcandpiafgicbaaGreatDoorEv0
namespace Go.Proofs.YtcandpiafgicbaaGreatDoor.Ev
open Go hiding Obj
set_option linter.unusedVariables false
set_option linter.unusedSimpArgs false
set_option linter.unusedSectionVars false
variable [Gl]
abbrev RS := Option (Value × St)
abbrev SF := Program → CallF → Env → St → Oper → RS
/-- An operation, as it was. -/
noncomputable def slowF : SF := fun P call e S o =>
  match aop P S (opd e) o with
  | some (.val v S') => some (v, S')
  | some (.call f args) => call f args S
  | none => none
noncomputable def oe {α : Type} (x y : Option α) : Option α := @Option.rec α (fun _ => Option α → Option α) (fun y => y) (fun v _ => some v) x y
theorem oe_some {α : Type} {x y : Option α} {v : α} (h : oe x y = some v) : x = some v ∨ (x = none ∧ y = some v) := by
  cases x with
  | none => exact .inr ⟨rfl, h⟩
  | some a => exact .inl h
/-- The cells of a value. -/
noncomputable def cellsV (v : Value) : List Value :=
  @Value.rec (fun _ => Value → List Value) (fun _ => PUnit) (fun _ => PUnit) (fun _ v => [v]) (fun _ _ v => [v]) (fun _ _ v => [v]) (fun _ _ _ v => [v]) (fun _ v => [v]) (fun _ v => [v])
    (fun _ _ _ v => [v]) (fun _ v => [v]) (fun _ v => [v]) (fun _ _ _ _ _ v => [v]) (fun v => [v]) (fun _ _ _ v => [v]) (fun v => [v]) (fun c _ _ => c.toList) (fun _ _ v => [v]) (fun _ _ => ⟨⟩) ⟨⟩ (fun _ _ _ _ => ⟨⟩) v v
theorem cellsV_eq (v : Value) : cellsV v = v.cells.toList := by cases v <;> rfl
noncomputable def alcF (S : St) (e : TypeId) (cs : List Value) : RS := ifB (allF cs) (@St.rec (fun _ => TypeId → List Value → RS) (fun h n e cs => forceN n fun i => some (.pointer (some ⟨i, 0, none⟩), ⟨h.ins i (.cells cs e 0), Nat.add i 2⟩)) S e cs) none
theorem alcF_some {S : St} {e : TypeId} {cs : List Value} {r : Value × St} (h : alcF S e cs = some r) : alc S e cs = some r := by
  obtain ⟨h1, h⟩ := ifB_some h
  obtain ⟨hp, n⟩ := S
  have h : (forceN n fun i => some (Value.pointer (some ⟨i, 0, none⟩), (⟨hp.ins i (.cells cs e 0), Nat.add i 2⟩ : St))) = some r := h
  rw [forceN_eq] at h
  unfold alc
  rw [← allF_eq, h1]
  exact h
/-- A variable's first cells. -/
noncomputable def zeroCs (P : Program) (e : TypeId) : Option (List Value) := match infoF P e with | some i => (match i.zero with | some z => bif plain z then some z.cells.toList else none | none => none) | none => none
/-- To what kind of number a number is converted. -/
noncomputable def cvtK (P : Program) (src dst : TypeId) : Option IntKind :=
  match undF P src, undF P dst with
  | some (.int _), some (.int k) => some k
  | _, _ => none
noncomputable def opndsF (e : Env) (l : List Operand) : Option (List Value) := @List.rec Operand (fun _ => Env → Option (List Value)) (fun _ => some []) (fun x _ ih e => ob (opdF e x) fun v => ob (ih e) fun vs => some (v :: vs)) l e
theorem opndsF_some {e : Env} : ∀ {l : List Operand} {vs : List Value}, opndsF e l = some vs → opnds (opd e) l = some vs
  | [], vs, h => h
  | x :: l, vs, h => by
    have h : ob (opdF e x) (fun v => ob (opndsF e l) fun vs => some (v :: vs)) = some vs := h
    obtain ⟨v, h1, h⟩ := ob_some h
    obtain ⟨ws, h2, h⟩ := ob_some h
    rw [opdF_eq] at h1
    simp only [opnds, h1, opndsF_some h2]
    exact h
/-- The function that is called, where that is plain to see. -/
noncomputable def entersF (P : Program) (f : FuncId) : Bool := match funcF P f with | some fn => !(fn.name == "runtime.NumGoroutine") && fn.body.isSome | none => false
theorem entersF_eq (P : Program) (f : FuncId) : entersF P f = enters P f := by unfold entersF enters; rw [funcF_eq]; rfl
noncomputable def calleeOf (P : Program) (c : Callee) : Option FuncId := match c with | .value (.func f) => bif entersF P f then some f else none | _ => none
noncomputable def boolOf (v : Value) : Option Bool :=
  @Value.rec (fun _ => Option Bool) (fun _ => PUnit) (fun _ => PUnit) (fun b => some b) (fun _ _ => none) (fun _ _ => none) (fun _ _ _ => none) (fun _ => none) (fun _ => none)
    (fun _ _ _ => none) (fun _ => none) (fun _ => none) (fun _ _ _ _ _ => none) none (fun _ _ _ => none) none (fun _ _ => none) (fun _ _ => none) (fun _ _ => ⟨⟩) ⟨⟩ (fun _ _ _ _ => ⟨⟩) v
theorem boolOf_some {v : Value} {b : Bool} (h : boolOf v = some b) : v = .bool b := by
  cases v with
  | bool c =>
    have h : some c = some b := h
    injection h with h
    subst h; rfl
  | _ => cases h
/-- What a check for nil lets by. -/
noncomputable def notNil (v : Value) : Bool :=
  @Value.rec (fun _ => Bool) (fun _ => PUnit) (fun _ => PUnit) (fun _ => false) (fun _ _ => false) (fun _ _ => false) (fun _ _ _ => false) (fun _ => false) (fun a => @Option.rec Addr (fun _ => Bool) false (fun _ => true) a)
    (fun _ _ _ => false) (fun _ => false) (fun _ => false) (fun _ _ _ _ _ => false) false (fun _ _ _ => true) false (fun _ _ => false) (fun _ _ => false) (fun _ _ => ⟨⟩) ⟨⟩ (fun _ _ _ _ => ⟨⟩) v
theorem notNil_some {v : Value} (h : notNil v = true) : (∃ a, v = .pointer (some a)) ∨ ∃ t x, v = .iface t x := by
  cases v with
  | pointer a =>
    cases a with
    | none => cases h
    | some a => exact .inl ⟨a, rfl⟩
  | iface t x => exact .inr ⟨t, x, rfl⟩
  | _ => cases h
noncomputable def stepF : SF := fun P call e S o =>
  @Op.rec (fun _ => SF)
    (fun x _ _ e S _ => ob (opdF e x) fun v => some (v, S))
    (fun x _ _ e S _ => ob (opdF e x) fun v => some (v, S))
    (fun c a b _ _ e S _ => ob (opdF e c) fun t => ob (opdF e a) fun va => ob (opdF e b) fun vb => ob (boolOf t) fun t => some (ifB t va vb, S))
    (fun t P _ _ S _ => ob (zeroCs P t) fun cs => alcF S t cs)
    (fun t x _ _ e S _ => ob (opdF e x) fun v => alcF S t (cellsV v))
    (fun _ _ => slowF) (fun _ _ _ => slowF) (fun _ _ _ _ => slowF)
    (fun t a P _ e S _ => ob (opdF e a) fun v => ob (ldF P S t v) fun x => some (x, S))
    (fun t a x P _ e S _ => ob (opdF e a) fun v => ob (opdF e x) fun u => ob (stoF P S t v u) fun S' => some (undef, S'))
    (fun _ => slowF) (fun _ => slowF)
    (fun x P call e S o => ob (opdF e x) fun v => ifB (notNil v) (some (v, S)) (slowF P call e S o))
    (fun op _ x y _ P call e S o => ob (opdF e x) fun a => ob (opdF e y) fun b => oe (ob (binF op a b) fun v => some (v, S)) (slowF P call e S o))
    (fun _ _ _ => slowF)
    (fun src dst x P call e S o => oe (ob (cvtK P src dst) fun k => ob (opdF e x) fun v => ob (natOf v) fun n => ob (natW k n) fun u => some (u, S)) (slowF P call e S o))
    (fun _ _ => slowF) (fun _ _ => slowF) (fun _ _ _ => slowF) (fun _ _ => slowF) (fun _ _ => slowF) (fun _ _ _ => slowF) (fun _ _ _ _ _ => slowF)
    (fun s x f P _ e S _ => ob (opdF e x) fun v => ob (flaF P s v f) fun u => some (u, S))
    (fun t x f P _ e S _ => ob (opdF e x) fun v => ob (fldF P t v f) fun u => some (u, S))
    (fun t x i P _ e S _ => ob (opdF e x) fun v => ob (opdF e i) fun j => ob (ixaF P t v j) fun u => some (u, S))
    (fun _ _ _ => slowF) (fun _ _ _ _ => slowF) (fun _ _ _ _ => slowF) (fun _ _ _ => slowF) (fun _ _ _ _ => slowF) (fun _ _ => slowF) (fun _ _ => slowF) (fun _ => slowF) (fun _ _ _ _ => slowF)
    (fun x i _ _ e S _ => ob (opdF e x) fun v => ob (tupOf v) fun vs => ob (nthF i vs) fun u => some (u, S))
    (fun c P call e S o => @Option.rec FuncId (fun _ => Call → SF) (fun _ => slowF) (fun f c _ call e S _ => ob (opndsF e c.args.toList) fun args => call f args S) (calleeOf P c.callee) c P call e S o)
    (fun _ => slowF) (fun _ => slowF) (fun _ => slowF) (fun _ _ => slowF) (fun _ _ _ => slowF) (fun _ _ => slowF) o.op P call e S o
section
variable {P : Program}
theorem natW_plain {k : IntKind} {n : Nat} {v : Value} (h : natW k n = some v) : plain v = true := by rw [natW_some h]; rfl
/-- A number that is converted. -/
theorem cvt_slow {call : CallF} {e : Env} {S : St} {o : Oper} {src dst : TypeId} {x : Operand} {k : IntKind} {v u : Value} {n : Nat} (ho : o.op = .convert src dst x) (hk : cvtK P src dst = some k) (hx : opd e x = some v) (hn : natOf v = some n) (hu : natW k n = some u) :
    slowF P call e S o = some (u, S) := by
  obtain ⟨l, rfl⟩ := natOf_some hn
  have hpu := natW_plain hu
  have hv := natW_some hu
  unfold cvtK at hk
  simp only [infoF_eq, undF_eq] at hk
  split at hk
  case h_2 => cases hk
  rename_i k1 k2 hs hd
  injection hk with hk
  subst hk
  have hcv : cvt P S src dst (.int l (.ofNat n)) = none := by
    simp only [cvt, hs, hd]
  have hf : fbk P S (opd e) o = some (.val u S) := by
    unfold fbk
    have hpl : plainAll (opd e) o.op.operands.toList = true := by
      rw [ho]
      simp only [plainAll, Op.operands, List.all_cons, List.all_nil, hx]
      rfl
    have hsel : isSelect o.op = false := by rw [ho]; rfl
    have hrun : pureRun P (execOp (fun x => (opd e x).getD undef) o) = some (.value u) := by
      have e1 : execOp (fun x => (opd e x).getD undef) o = (convert src dst (.int l (.ofNat n))).bind fun a => pure (.value a) := by
        simp only [execOp, ho, hx, Option.getD_some]
        rfl
      have hund : ∀ t d, P.underlying t = some d → pureRun P (underlying t) = some d := fun t d h => by
        show pureRun P (match P.underlying t with | some d => pure d | none => stuck "no such type") = some d
        rw [h]
        rfl
      have hus := hund _ _ hs
      have hud := hund _ _ hd
      have e2 : pureRun P (convert src dst (.int l (.ofNat n))) = some u := by
        unfold convert
        refine (pureRun_then hus).trans ?_
        refine (pureRun_then hud).trans ?_
        subst hv
        rfl
      rw [e1, pureRun_then e2]
      rfl
    rw [hpl, hsel, hrun]
    simp only [Bool.not_false, Bool.and_true, cond_true, hpu]
  unfold slowF aop
  simp only [ho, hx, hcv, hf]
theorem stepF_slow {call : CallF} {e : Env} {S : St} {o : Oper} {r : Value × St} (h : stepF P call e S o = some r) : slowF P call e S o = some r := by
  cases ho : o.op with
  | move x =>
    unfold stepF at h
    rw [ho] at h
    have h : ob (opdF e x) (fun v => some (v, S)) = some r := h
    obtain ⟨v, h1, h⟩ := ob_some h
    rw [opdF_eq] at h1
    unfold slowF aop
    simp only [ho, h1, outV]
    exact h
  | assign x =>
    unfold stepF at h
    rw [ho] at h
    have h : ob (opdF e x) (fun v => some (v, S)) = some r := h
    obtain ⟨v, h1, h⟩ := ob_some h
    rw [opdF_eq] at h1
    unfold slowF aop
    simp only [ho, h1, outV]
    exact h
  | pick c a b =>
    unfold stepF at h
    rw [ho] at h
    have h : ob (opdF e c) (fun t => ob (opdF e a) fun va => ob (opdF e b) fun vb => ob (boolOf t) fun t => some (ifB t va vb, S)) = some r := h
    obtain ⟨t, h1, h⟩ := ob_some h
    obtain ⟨va, h2, h⟩ := ob_some h
    obtain ⟨vb, h3, h⟩ := ob_some h
    obtain ⟨q, h4, h⟩ := ob_some h
    rw [opdF_eq] at h1 h2 h3
    obtain rfl := boolOf_some h4
    unfold slowF aop
    simp only [ho, h1, h2, h3]
    cases q <;> exact h
  | alloc t =>
    unfold stepF at h
    rw [ho] at h
    have h : ob (zeroCs P t) (fun cs => alcF S t cs) = some r := h
    obtain ⟨cs, h1, h⟩ := ob_some h
    have h := alcF_some h
    have hzc : ∀ i, infoF P t = some i → i.zero = zeroOf P t := fun i hi => by
      rw [infoF_eq] at hi
      unfold zeroOf
      rw [hi]
    unfold zeroCs at h1
    split at h1
    case h_2 => cases h1
    rename_i ii hii
    rw [hzc ii hii] at h1
    split at h1
    · rename_i z hz
      cases hp : plain z with
      | false => rw [hp] at h1; cases h1
      | true =>
        rw [hp] at h1
        injection h1 with h1
        subst h1
        unfold slowF aop
        simp only [ho, hz, hp, cond_true, h, outVS]
    · cases h1
  | box t x =>
    unfold stepF at h
    rw [ho] at h
    have h : ob (opdF e x) (fun v => alcF S t (cellsV v)) = some r := h
    obtain ⟨v, h1, h⟩ := ob_some h
    have h := alcF_some h
    rw [opdF_eq] at h1
    rw [cellsV_eq] at h
    unfold slowF aop
    simp only [ho, h1, h, outVS]
  | load t a =>
    unfold stepF at h
    rw [ho] at h
    have h : ob (opdF e a) (fun v => ob (ldF P S t v) fun x => some (x, S)) = some r := h
    obtain ⟨v, h1, h⟩ := ob_some h
    obtain ⟨x, h2, h⟩ := ob_some h
    rw [opdF_eq] at h1
    unfold slowF aop
    simp only [ho, h1, ldF_some h2, outV]
    exact h
  | store t a x =>
    unfold stepF at h
    rw [ho] at h
    have h : ob (opdF e a) (fun v => ob (opdF e x) fun u => ob (stoF P S t v u) fun S' => some (undef, S')) = some r := h
    obtain ⟨v, h1, h⟩ := ob_some h
    obtain ⟨u, h2, h⟩ := ob_some h
    obtain ⟨S', h3, h⟩ := ob_some h
    rw [opdF_eq] at h1 h2
    unfold slowF aop
    simp only [ho, h1, h2, stoF_some h3, outS]
    exact h
  | nilCheck x =>
    unfold stepF at h
    rw [ho] at h
    have h : ob (opdF e x) (fun v => ifB (notNil v) (some (v, S)) (slowF P call e S o)) = some r := h
    obtain ⟨v, h1, h⟩ := ob_some h
    rw [opdF_eq] at h1
    cases hn : notNil v with
    | false => rw [hn] at h; exact h
    | true =>
      rw [hn] at h
      unfold slowF aop
      rcases notNil_some hn with ⟨a, rfl⟩ | ⟨t, y, rfl⟩
      · simp only [ho, h1]; exact h
      · simp only [ho, h1]; exact h
  | binOp op t x y u =>
    unfold stepF at h
    rw [ho] at h
    have h : ob (opdF e x) (fun a => ob (opdF e y) fun b => oe (ob (binF op a b) fun v => some (v, S)) (slowF P call e S o)) = some r := h
    obtain ⟨a, h1, h⟩ := ob_some h
    obtain ⟨b, h2, h⟩ := ob_some h
    rw [opdF_eq] at h1 h2
    rcases oe_some h with h | ⟨_, h⟩
    · obtain ⟨v, h3, h⟩ := ob_some h
      obtain ⟨p1, p2, p3⟩ := binF_fbk (P := P) (S := S) (ρ := opd e) ho h1 h2 h3
      unfold slowF aop
      simp only [ho, h1, h2, p1, p2, p3, Bool.and_true, cond_true]
      exact h
    · exact h
  | convert src dst x =>
    unfold stepF at h
    rw [ho] at h
    have h : oe (ob (cvtK P src dst) fun k => ob (opdF e x) fun v => ob (natOf v) fun n => ob (natW k n) fun u => some (u, S)) (slowF P call e S o) = some r := h
    rcases oe_some h with h | ⟨_, h⟩
    · obtain ⟨k, h1, h⟩ := ob_some h
      obtain ⟨v, h2, h⟩ := ob_some h
      obtain ⟨n, h3, h⟩ := ob_some h
      obtain ⟨u, h4, h⟩ := ob_some h
      rw [opdF_eq] at h2
      rw [cvt_slow ho h1 h2 h3 h4]
      exact h
    · exact h
  | fieldAddr s x f =>
    unfold stepF at h
    rw [ho] at h
    have h : ob (opdF e x) (fun v => ob (flaF P s v f) fun u => some (u, S)) = some r := h
    obtain ⟨v, h1, h⟩ := ob_some h
    obtain ⟨u, h2, h⟩ := ob_some h
    rw [opdF_eq] at h1
    unfold slowF aop
    simp only [ho, h1, flaF_some h2, outV]
    exact h
  | field t x f =>
    unfold stepF at h
    rw [ho] at h
    have h : ob (opdF e x) (fun v => ob (fldF P t v f) fun u => some (u, S)) = some r := h
    obtain ⟨v, h1, h⟩ := ob_some h
    obtain ⟨u, h2, h⟩ := ob_some h
    rw [opdF_eq] at h1
    unfold slowF aop
    simp only [ho, h1, fldF_some h2, outV]
    exact h
  | indexAddr t x i =>
    unfold stepF at h
    rw [ho] at h
    have h : ob (opdF e x) (fun v => ob (opdF e i) fun j => ob (ixaF P t v j) fun u => some (u, S)) = some r := h
    obtain ⟨v, h1, h⟩ := ob_some h
    obtain ⟨j, h2, h⟩ := ob_some h
    obtain ⟨u, h3, h⟩ := ob_some h
    rw [opdF_eq] at h1 h2
    have hs : scalar j = true := by
      obtain ⟨n, g1, _⟩ : ∃ n, natOf j = some n ∧ True := by
        obtain ⟨q, g1, g2⟩ := ob_some h3
        obtain ⟨n, g3, _⟩ := ob_some g2
        exact ⟨n, g3, trivial⟩
      obtain ⟨k, rfl⟩ := natOf_some g1
      rfl
    unfold slowF aop
    simp only [ho, h1, h2, hs, cond_true, ixaF_some h3, outV]
    exact h
  | extract x i =>
    unfold stepF at h
    rw [ho] at h
    have h : ob (opdF e x) (fun v => ob (tupOf v) fun vs => ob (nthF i vs) fun u => some (u, S)) = some r := h
    obtain ⟨v, h1, h⟩ := ob_some h
    obtain ⟨vs, h2, h⟩ := ob_some h
    obtain ⟨u, h3, h5⟩ := ob_some h
    rw [opdF_eq] at h1
    obtain ⟨a, rfl, rfl⟩ := tupOf_some h2
    rw [nthF_eq] at h3
    have h4 : a[i]? = some u := by simpa using h3
    unfold slowF aop
    simp only [ho, h1, h4, outV]
    exact h5
  | call c =>
    unfold stepF at h
    rw [ho] at h
    have h : @Option.rec FuncId (fun _ => Call → SF) (fun _ => slowF) (fun f c _ call e S _ => ob (opndsF e c.args.toList) fun args => call f args S) (calleeOf P c.callee) c P call e S o = some r := h
    cases hc : calleeOf P c.callee with
    | none => rw [hc] at h; exact h
    | some f =>
      rw [hc] at h
      have h : ob (opndsF e c.args.toList) (fun args => call f args S) = some r := h
      obtain ⟨args, h1, h⟩ := ob_some h
      unfold calleeOf at hc
      split at hc
      · rename_i g hg
        rw [entersF_eq] at hc
        cases he : enters P g with
        | false => rw [he] at hc; cases hc
        | true =>
          rw [he] at hc
          injection hc with hc
          subst hc
          unfold slowF aop
          simp only [ho, opndsF_some h1, hg, opd, callA, he, cond_true]
          simpa using h
      · cases hc
  | _ => unfold stepF at h; rw [ho] at h; exact h
end
end Go.Proofs.YtcandpiafgicbaaGreatDoor.Ev
