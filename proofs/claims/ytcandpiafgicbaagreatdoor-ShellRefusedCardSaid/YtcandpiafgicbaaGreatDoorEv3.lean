/- The evaluator's fast shape: code and calls. -/
import Derived.Test.YtcandpiafgicbaaGreatDoorEv2
import Derived.Test.YtcandpiafgicbaaGreatDoorEvY
namespace Go.Proofs.YtcandpiafgicbaaGreatDoor.Ev
open Go hiding Obj
set_option linter.unusedVariables false
set_option linter.unusedSimpArgs false
set_option linter.unusedSectionVars false
variable [Gl]
/-- Code, one step of it. -/
inductive CV where
  | skip
  | reg (id : Nat) (ops : Array Oper) (draw : Bool)
  | seq (a b : Code)
  | cond (x : Operand) (a b : Code)
  | block (id : Nat) (a : Code)
  | loop (a : Code)
  | exit (id : Nat)
  | goto (l : Nat)
  | ret
  | bad
def viewC : Code → CV
  | .skip | .label _ => .skip
  | .region id ops draw => .reg id ops draw
  | .seq a b => .seq a b
  | .cond x a b => .cond x a b
  | .block id a => .block id a
  | .loop a => .loop a
  | .exit id => .exit id
  | .goto l => .goto l
  | .ret => .ret
  | _ => .bad
abbrev RC := Option (Ex × Env × St)
abbrev IH := Code → Env → St → RC
abbrev AF := (Nat → Option Plan) → Program → IH → CallF → Env → St → RC
/-- Is it the usual end? -/
noncomputable def exN (x : Ex) : Bool := @Ex.rec (fun _ => Bool) true (fun _ => false) (fun _ => false) false x
theorem exN_eq {x : Ex} (h : exN x = true) : x = .normal := by cases x <;> first | rfl | cases h
noncomputable def exI (x : Ex) (id : Nat) : Ex := @Ex.rec (fun _ => Nat → Ex) (fun _ => .normal) (fun i id => ifB (Nat.beq i id) .normal (.exit i)) (fun l _ => .goto l) (fun _ => .ret) x id
noncomputable def evStepF (pl : Nat → Option Plan) (P : Program) (ih : IH) (call : CallF) (c : Code) (e : Env) (S : St) : RC :=
  @CV.rec (fun _ => AF)
    (fun _ _ _ _ e S => some (.normal, e, S))
    (fun id ops draw pl P _ call e S => ifB draw (ob (pl id) fun p => obp (evDrawF P call ops p e S) fun e s => some (.normal, e, s)) (obp (evOpsF P call ops ops.toList e S) fun e s => some (.normal, e, s)))
    (fun a b _ _ ih _ e S => obp (ih a e S) fun x q => @Prod.rec Env St (fun _ => RC) (fun e s => ifB (exN x) (ih b e s) (some (x, e, s))) q)
    (fun x a b _ _ ih _ e S => ob (opdF e x) fun v => ob (boolOf v) fun t => ih (ifB t a b) e S)
    (fun id a _ _ ih _ e S => obp (ih a e S) fun x q => some (exI x id, q))
    (fun a _ _ ih _ e S => obp (ih a e S) fun x q => @Prod.rec Env St (fun _ => RC) (fun e s => ifB (exN x) (ih (.loop a) e s) (some (x, e, s))) q)
    (fun id _ _ _ _ e S => some (.exit id, e, S))
    (fun l _ _ _ _ e S => some (.goto l, e, S))
    (fun _ _ _ _ e S => some (.ret, e, S))
    (fun _ _ _ _ _ _ => none) (viewC c) pl P ih call e S
noncomputable def envOfF (args : List Value) (i : Nat) : Tr Value := @List.rec Value (fun _ => Nat → Tr Value) (fun _ => Tr.nil) (fun v _ ih i => Tr.ins (ih (Nat.add i 1)) i v) args i
theorem envOfF_eq : ∀ (args : List Value) (i : Nat), envOfF args i = envOf args i
  | [], _ => rfl
  | v :: args, i => by
    have : envOfF (v :: args) i = Tr.ins (envOfF args (i + 1)) i v := rfl
    rw [this, envOfF_eq args (i + 1)]
    rfl
abbrev Tab := List (Nat × List (Nat × Plan))
def look {α : Type} : List (Nat × α) → Nat → Option α
  | [], _ => none
  | (k, v) :: t, i => bif Nat.beq k i then some v else look t i
def plOf (tab : Tab) (f : FuncId) (id : Nat) : Option Plan := (look tab f).bind fun rows => look rows id
/-- A function: its code, its slots, its results. -/
noncomputable def fnF (P : Program) (f : FuncId) : Option (Code × Nat × List ResultVar) :=
  match funcF P f with
  | some fn => match fn.body with
    | some c => some (c, fn.ntmps, fn.results.toList)
    | none => none
  | none => none
noncomputable def oneV (vs : List Value) : Value := @List.rec Value (fun _ => Value) (.tuple ⟨[]⟩) (fun v t _ => @List.rec Value (fun _ => Value → Value) (fun v => v) (fun u t _ v => .tuple ⟨v :: u :: t⟩) t v) vs
noncomputable def endsF (x : Ex) : Bool := @Ex.rec (fun _ => Bool) true (fun _ => false) (fun _ => false) true x
noncomputable def callF (P : Program) (pr : Prims) (ih : FuncId → IH) (f : FuncId) (args : List Value) (S : St) : RS :=
  @Option.rec (List Value → St → RS) (fun _ => Program → (FuncId → IH) → FuncId → List Value → St → RS)
    (fun P ih f args S => ob (fnF P f) fun q => obp (ih f q.1 ⟨envOfF args 0, Nat.add (lenF args 0) (Nat.sub q.2.1 (lenF args 0))⟩ S) fun x r => @Prod.rec Env St (fun _ => RS) (fun e s => ifB (endsF x) (ob (resV P s e q.2.2) fun vs => some (oneV vs, s)) none) r)
    (fun g _ _ _ args S => g args S) (pr f) P ih f args S
noncomputable def evF (P : Program) (pr : Prims) (tab : Tab) (n : Nat) : FuncId → IH :=
  @Nat.rec (fun _ => FuncId → IH) (fun _ _ _ _ => none) (fun _ ih f c e S => evStepF (plOf tab f) P (ih f) (callF P pr ih) c e S) n
/-- Do the plans fit? -/
def okC (pl : Nat → Option Plan) : Code → Bool
  | .region id ops draw => bif draw then (match pl id with | some p => planFit ops p | none => true) else true
  | .seq a b => okC pl a && okC pl b
  | .cond _ a b => okC pl a && okC pl b
  | .block _ a => okC pl a
  | .loop a => okC pl a
  | _ => true
def rowOk (P : Program) (row : Nat × List (Nat × Plan)) : Bool :=
  match P.funcs[row.1]? with
  | some fn => match fn.body with
    | some c => okC (look row.2) c
    | none => true
  | none => true
section
variable {P : Program} {pr : Prims} {tab : Tab}
theorem look_mem {α : Type} : ∀ {l : List (Nat × α)} {i : Nat} {v : α}, look l i = some v → (i, v) ∈ l
  | [], _, _, h => by cases h
  | (k, v) :: t, i, u, h => by
    unfold look at h
    cases hb : Nat.beq k i with
    | true =>
      rw [hb] at h
      injection h with h
      subst h
      rw [beq0 hb]
      simp
    | false =>
      rw [hb] at h
      exact List.mem_cons_of_mem _ (look_mem h)
theorem okC_none : ∀ (c : Code), okC (fun _ => none) c = true
  | .region id ops draw => by cases draw <;> rfl
  | .seq a b => by simp only [okC, okC_none a, okC_none b, Bool.and_true]
  | .cond _ a b => by simp only [okC, okC_none a, okC_none b, Bool.and_true]
  | .block _ a => by simp only [okC, okC_none a]
  | .loop a => by simp only [okC, okC_none a]
  | .skip | .rangeFunc .. | .exit _ | .scope _ | .label _ | .goto _ | .ret | .refuse _ => rfl
theorem plOf_ok (hT : ∀ row ∈ tab, rowOk P row = true) {f : FuncId} {fn : Func} {c : Code} (hf : P.funcs[f]? = some fn) (hc : fn.body = some c) : okC (plOf tab f) c = true := by
  cases hl : look tab f with
  | none =>
    have : plOf tab f = fun _ => none := by funext id; simp [plOf, hl]
    rw [this]
    exact okC_none c
  | some rows =>
    have : plOf tab f = look rows := by funext id; simp [plOf, hl]
    rw [this]
    have := hT _ (look_mem hl)
    simp only [rowOk, hf, hc] at this
    exact this
theorem callF_le (hT : ∀ row ∈ tab, rowOk P row = true) {ihF : FuncId → IH} {ih : IH} (hle : ∀ f c e S r, okC (plOf tab f) c = true → ihF f c e S = some r → ih c e S = some r) : CLe (callF P pr ihF) (callE P pr ih) := by
  intro f args S r h
  unfold callF at h
  unfold callE
  cases hp : pr f with
  | some g => rw [hp] at h; exact h
  | none =>
    rw [hp] at h
    have h : ob (fnF P f) (fun q => obp (ihF f q.1 ⟨envOfF args 0, Nat.add (lenF args 0) (Nat.sub q.2.1 (lenF args 0))⟩ S) fun x r => @Prod.rec Env St (fun _ => RS) (fun e s => ifB (endsF x) (ob (resV P s e q.2.2) fun vs => some (oneV vs, s)) none) r) = some r := h
    obtain ⟨q, h1, h⟩ := ob_some h
    obtain ⟨x, p, h2, h3⟩ := obp_some h
    obtain ⟨e', S'⟩ := p
    obtain ⟨h4, h5⟩ := ifB_some (show ifB (endsF x) (ob (resV P S' e' q.2.2) fun vs => some (oneV vs, S')) none = some r from h3)
    obtain ⟨vs, h6, h7⟩ := ob_some h5
    unfold fnF at h1
    rw [funcF_eq] at h1
    split at h1
    case h_2 => cases h1
    rename_i fn hf
    split at h1
    case h_2 => cases h1
    rename_i c hc
    injection h1 with h1
    subst h1
    rw [envOfF_eq, lenF_eq, Nat.zero_add] at h2
    have h2 := hle _ _ _ _ _ (plOf_ok hT hf hc) h2
    have h2 : ih c ⟨envOf args 0, args.length + (fn.ntmps - args.length)⟩ S = some (x, e', S') := h2
    simp only [hf, hc, h2]
    injection h7 with h7
    subst h7
    have h6 : resV P S' e' fn.results.toList = some vs := h6
    cases x with
    | normal => simp only [h6]; rcases vs with _ | ⟨v, _ | ⟨u, t⟩⟩ <;> rfl
    | ret => simp only [h6]; rcases vs with _ | ⟨v, _ | ⟨u, t⟩⟩ <;> rfl
    | exit i => cases h4
    | goto l => cases h4
theorem evF_ev (hT : ∀ row ∈ tab, rowOk P row = true) : ∀ (n : Nat) (f : FuncId) (c : Code) (e : Env) (S : St) (r : Ex × Env × St), okC (plOf tab f) c = true → evF P pr tab n f c e S = some r → ev P pr n c e S = some r
  | 0, _, _, _, _, _, _, h => by cases h
  | n + 1, f, c, e, S, r, hok, h => by
    have hcall := callF_le (pr := pr) hT (ihF := evF P pr tab n) (ih := ev P pr n) (evF_ev hT n)
    have h : evStepF (plOf tab f) P (evF P pr tab n f) (callF P pr (evF P pr tab n)) c e S = some r := h
    show evStep P pr (ev P pr n) c e S = some r
    have IH := fun c e S r => evF_ev hT n f c e S r
    cases c with
    | skip => exact h
    | label l => exact h
    | region id ops draw =>
      cases draw with
      | true =>
        have h : ob (plOf tab f id) (fun p => obp (evDrawF P (callF P pr (evF P pr tab n)) ops p e S) fun e s => some (Ex.normal, e, s)) = some r := h
        obtain ⟨p, h1, h⟩ := ob_some h
        obtain ⟨e', s', h2, h3⟩ := obp_some h
        simp only [okC, h1, cond_true] at hok
        simp only [evStep, cond_true, evDrawF_some hcall hok h2]
        exact h3
      | false =>
        have h : obp (evOpsF P (callF P pr (evF P pr tab n)) ops ops.toList e S) (fun e s => some (Ex.normal, e, s)) = some r := h
        obtain ⟨e', s', h2, h3⟩ := obp_some h
        simp only [evStep, cond_false, evOpsF_some hcall h2]
        exact h3
    | seq a b =>
      simp only [okC, Bool.and_eq_true] at hok
      have h : obp (evF P pr tab n f a e S) (fun x q => @Prod.rec Env St (fun _ => RC) (fun e s => ifB (exN x) (evF P pr tab n f b e s) (some (x, e, s))) q) = some r := h
      obtain ⟨x, q, h1, h2⟩ := obp_some h
      obtain ⟨e', s'⟩ := q
      have h2 : ifB (exN x) (evF P pr tab n f b e' s') (some (x, e', s')) = some r := h2
      have h1 := IH _ _ _ _ hok.1 h1
      simp only [evStep, h1]
      cases x with
      | normal => exact IH _ _ _ _ hok.2 h2
      | _ => exact h2
    | cond x a b =>
      simp only [okC, Bool.and_eq_true] at hok
      have h : ob (opdF e x) (fun v => ob (boolOf v) fun t => evF P pr tab n f (ifB t a b) e S) = some r := h
      obtain ⟨v, h1, h⟩ := ob_some h
      obtain ⟨t, h2, h3⟩ := ob_some h
      obtain rfl := boolOf_some h2
      rw [opdF_eq] at h1
      simp only [evStep, h1]
      cases t with
      | true => exact IH _ _ _ _ hok.1 h3
      | false => exact IH _ _ _ _ hok.2 h3
    | block id a =>
      have h : obp (evF P pr tab n f a e S) (fun x q => some (exI x id, q)) = some r := h
      obtain ⟨x, q, h1, h2⟩ := obp_some h
      obtain ⟨e', s'⟩ := q
      have h1 := IH _ _ _ _ (show okC (plOf tab f) a = true from hok) h1
      simp only [evStep, h1]
      cases x with
      | exit i =>
        have h2 : some (ifB (Nat.beq i id) Ex.normal (Ex.exit i), e', s') = some r := h2
        rw [ifB_eq] at h2
        cases hb : Nat.beq i id with
        | true => rw [hb] at h2; simp only [hb, cond_true]; exact h2
        | false => rw [hb] at h2; simp only [hb, cond_false]; exact h2
      | _ => exact h2
    | loop a =>
      have h : obp (evF P pr tab n f a e S) (fun x q => @Prod.rec Env St (fun _ => RC) (fun e s => ifB (exN x) (evF P pr tab n f (.loop a) e s) (some (x, e, s))) q) = some r := h
      obtain ⟨x, q, h1, h2⟩ := obp_some h
      obtain ⟨e', s'⟩ := q
      have h2 : ifB (exN x) (evF P pr tab n f (.loop a) e' s') (some (x, e', s')) = some r := h2
      have h1 := IH _ _ _ _ (show okC (plOf tab f) a = true from hok) h1
      simp only [evStep, h1]
      cases x with
      | normal => exact IH _ _ _ _ hok h2
      | _ => exact h2
    | exit id => exact h
    | goto l => exact h
    | ret => exact h
    | _ => cases h
/-- A call without arguments, from whatever memory. -/
theorem closed_callF (hm : P.follows .mixedOrders = true) (hpr : PrimOk P pr) (hT : ∀ row ∈ tab, rowOk P row = true) (n : Nat) {f : FuncId} {v : Value} {S : St} (h : callF P pr (evF P pr tab n) f [] ⟨Hp.nil, 0⟩ = some (v, S)) (hv : plain v = true) (w : World) (hG : GlOk w) :
    Calls P f #[] w fun e w' => e = .returned v ∧ RowKit.Below w.heap.size w w' :=
  closed_call hm hpr n (callF_le hT (evF_ev hT n) _ _ _ _ h) hv w hG
/-- Later worlds hold it, too. -/
theorem GlOk.below {B : Nat} {w w' : World} (h : GlOk w) (hw : RowKit.Below B w w') (hB : ∀ p ∈ Gl.cells, p.1 < B) : GlOk w' := fun p hp => by
  obtain ⟨h1, h2⟩ := h p hp
  exact ⟨Nat.lt_of_lt_of_le h1 hw.size, by rw [hw.block p.1 (hB p hp)]; exact h2⟩
/-- A call in a memory that the evaluator knows. -/
theorem callF_sound (hm : P.follows .mixedOrders = true) (hpr : PrimOk P pr) (hT : ∀ row ∈ tab, rowOk P row = true) (n : Nat) {f : FuncId} {args : List Value} {v : Value} {S S' : St} (h : callF P pr (evF P pr tab n) f args S = some (v, S')) {r : Ren} {w : World} {args' : List Value}
    (hr : Rel r S w) (ha : VRs r args args') : Calls P f ⟨args'⟩ w fun e w' => ∃ r' v', e = .returned v' ∧ Fr r S w r' S' w' ∧ VR r' v v' :=
  call_sound hm hpr n f args S v S' (callF_le hT (evF_ev hT n) _ _ _ _ h) r w args' hr ha
/-- An empty memory. -/
noncomputable def S0 : St := ⟨Hp.nil, 0⟩
def r0 : Ren := ⟨0, id, id, id⟩
theorem own0 {b : Nat} : ¬ Owned r0 S0 b := by
  rintro ⟨i, o, hi, _⟩
  simp only [S0, St.get, Hp.get_nil] at hi
  cases hi
theorem rel0 (w : World) (hG : GlOk w) : Rel r0 S0 w := ⟨fun p hp => ⟨(hG p hp).1, own0, (hG p hp).2⟩, rfl, rfl, fun i o h => by
    simp only [S0, St.get, Hp.get_nil] at h
    exact absurd h (by simp), fun i j oi oj h => by
    simp only [S0, St.get, Hp.get_nil] at h
    cases h⟩
theorem fr0_below {w : World} {r : Ren} {S : St} {w' : World} (h : Fr r0 S0 w r S w') : RowKit.Below w.heap.size w w' :=
  ⟨h.os, h.tape, h.output, h.size, fun k hk => h.kept k hk own0⟩
theorem VRs.pl {r : Ren} : ∀ {xs : List Value}, xs.all plain = true → VRs r xs xs
  | [], _ => .nil
  | x :: xs, h => by simp at h; exact .cons (.pl h.1) (VRs.pl (by simpa using h.2))
/-- A call with arguments that lead nowhere, from whatever memory. -/
theorem closed_callA (hm : P.follows .mixedOrders = true) (hpr : PrimOk P pr) (hT : ∀ row ∈ tab, rowOk P row = true) (n : Nat) {f : FuncId} {args : List Value} {v : Value} {S : St} (h : callF P pr (evF P pr tab n) f args S0 = some (v, S)) (hp : args.all plain = true) (hv : plain v = true) (w : World) (hG : GlOk w) :
    Calls P f ⟨args⟩ w fun e w' => e = .returned v ∧ RowKit.Below w.heap.size w w' := by
  refine (callF_sound hm hpr hT n h (rel0 w hG) (VRs.pl hp)).mono ?_
  rintro e w' ⟨r', v', rfl, f1, f2⟩
  exact ⟨by rw [f2.plain_eq hv], fr0_below f1⟩
end
end Go.Proofs.YtcandpiafgicbaaGreatDoor.Ev
