/- The evaluator's operations, as one. -/
import Derived.Test.YtcandpiafgicbaaGreatDoorEvP
namespace Go.Proofs.YtcandpiafgicbaaGreatDoor.Ev
open Go hiding Obj
set_option linter.unusedVariables false
set_option linter.unusedSimpArgs false
set_option linter.unusedSectionVars false
variable [Gl]
inductive Out where
  | val (v : Value) (S : St)
  | call (f : FuncId) (args : List Value)
section
variable {P : Program}
noncomputable def enters (P : Program) (f : FuncId) : Bool := match P.funcs[f]? with | some fn => !(fn.name == "runtime.NumGoroutine") && fn.body.isSome | none => false
theorem enters_run {f : FuncId} (h : enters P f = true) (args : Array Value) (w : World) : (callFunc f args).run P w = .ok (.enter f args) w := by
  unfold enters at h
  split at h
  · rename_i fn hf
    simp only [Bool.and_eq_true, Bool.not_eq_true'] at h
    obtain ⟨h1, h2⟩ := h
    have h1' : ¬ fn.name = "runtime.NumGoroutine" := by simpa using h1
    simp [callFunc, hf, h1']
    intro hb
    rw [hb] at h2
    cases h2
  · cases h
noncomputable def opnds (ρ : Operand → Option Value) : List Operand → Option (List Value)
  | [] => some []
  | x :: xs => match ρ x, opnds ρ xs with | some v, some vs => some (v :: vs) | _, _ => none
theorem opnds_sim {r : Ren} {ρ : Operand → Option Value} {ρ' : Operand → Value} : ∀ {l : List Operand}, (∀ x ∈ l, ∀ v, ρ x = some v → VR r v (ρ' x)) → ∀ {vs : List Value}, opnds ρ l = some vs → VRs r vs (l.map ρ')
  | [], _, vs, h => by simp only [opnds, Option.some.injEq] at h; subst h; exact .nil
  | x :: xs, hρ, vs, h => by
    unfold opnds at h
    split at h
    · rename_i v vs' h1 h2
      simp only [Option.some.injEq] at h
      subst h
      exact .cons (hρ x (by simp) v h1) (opnds_sim (fun y hy => hρ y (by simp [hy])) h2)
    · cases h
noncomputable def pairs (ρ : Operand → Option Value) : List (Nat × Operand) → Option (List (Nat × Value))
  | [] => some []
  | (i, x) :: xs => match ρ x, pairs ρ xs with | some v, some vs => some ((i, v) :: vs) | _, _ => none
theorem pairs_sim {r : Ren} {ρ : Operand → Option Value} {ρ' : Operand → Value} : ∀ {l : List (Nat × Operand)}, (∀ x ∈ l.map (·.2), ∀ v, ρ x = some v → VR r v (ρ' x)) → ∀ {vs : List (Nat × Value)}, pairs ρ l = some vs → PsR r vs (l.map fun (i, x) => (i, ρ' x))
  | [], _, vs, h => by simp only [pairs, Option.some.injEq] at h; subst h; exact .nil
  | (i, x) :: xs, hρ, vs, h => by
    unfold pairs at h
    split at h
    · rename_i v vs' h1 h2
      simp only [Option.some.injEq] at h
      subst h
      exact .cons (hρ x (by simp) v h1) (pairs_sim (fun y hy => hρ y (by rw [List.map_cons]; exact List.mem_cons_of_mem _ hy)) h2)
    · cases h
noncomputable def plainAll (ρ : Operand → Option Value) (l : List Operand) : Bool := l.all fun x => match ρ x with | some v => plain v | none => false
noncomputable def isSelect : Op → Bool
  | .select .. => true
  | _ => false
/-- What asks nothing of the world, of values that lead nowhere. -/
noncomputable def fbk (P : Program) (S : St) (ρ : Operand → Option Value) (o : Oper) : Option Out :=
  bif plainAll ρ o.op.operands.toList && !isSelect o.op then
    match pureRun P (execOp (fun x => (ρ x).getD undef) o) with
    | some (.value v) => bif plain v then some (.val v S) else none
    | _ => none
  else none
noncomputable def callA (P : Program) (S : St) (g : FuncId) (args : List Value) : Option Out :=
  bif enters P g then some (.call g args) else
  bif args.all plain then
    match pureRun P (callFunc g ⟨args⟩) with
    | some (.value v) => bif plain v then some (.val v S) else none
    | _ => none
  else none
/-- An optional bound. -/
noncomputable def bnd (ρ : Operand → Option Value) : Option Operand → Option (Option Value)
  | none => some none
  | some x => match ρ x with | some v => some (some v) | none => none
noncomputable def outV : Option Value → St → Option Out
  | some v, S => some (.val v S)
  | none, _ => none
noncomputable def outVS : Option (Value × St) → Option Out
  | some (v, S) => some (.val v S)
  | none => none
noncomputable def outS : Option St → Option Out
  | some S => some (.val undef S)
  | none => none
/-- Built-in functions. -/
noncomputable def bltA (P : Program) (S : St) (b : Builtin) (ts : List TypeId) (args : List Value) : Option Out :=
  match b, ts, args with
  | .append, [ts, tx], [s, x] => outVS (app P S ts tx s x)
  | .copy, [td, tx], [d, x] => outVS (cpy P S td tx d x)
  | .clear, [t], [x] => outS (clr P S t x)
  | .delete, [t, _], [m, k] => outS (mdl P S t m k)
  | .len, [t], [x] => bif plain x then none else match P.underlying t, x with
    | some (.slice _), .slice _ n _ => some (.val (goInt n) S)
    | some (.map _ _), .map (some m) => match S.get m with
      | some (.map es _) => some (.val (goInt es.length) S)
      | _ => none
    | _, _ => none
  | .cap, [t], [x] => bif plain x then none else match P.underlying t, x with
    | some (.slice _), .slice (some ⟨b, _, none⟩) _ n => bif Nat.beq (b % 2) 0 then some (.val (goInt n) S) else none
    | _, _ => none
  | _, _, _ => none
noncomputable def aop (P : Program) (S : St) (ρ : Operand → Option Value) (o : Oper) : Option Out :=
  match o.op with
  | .move x | .assign x => outV (ρ x) S
  | .pick c a b => match ρ c, ρ a, ρ b with
    | some (.bool t), some va, some vb => some (.val (bif t then va else vb) S)
    | _, _, _ => none
  | .alloc e => match zeroOf P e with
    | some z => bif plain z then outVS (alc S e z.cells.toList) else none
    | none => none
  | .box e x => match ρ x with
    | some v => outVS (alc S e v.cells.toList)
    | none => none
  | .build t ps => match pairs ρ ps.toList with
    | some vs => outV (bld P t vs) S
    | none => none
  | .buildSlice t n ps => match pairs ρ ps.toList with
    | some vs => outVS (bldS P S t n vs)
    | none => none
  | .load t a => match ρ a with
    | some v => outV (ld P S t v) S
    | none => none
  | .store t a x => match ρ a, ρ x with
    | some v, some u => outS (sto P S t v u)
    | _, _ => none
  | .nilCheck x => match ρ x with
    | some (.pointer (some a)) => some (.val (.pointer (some a)) S)
    | some (.iface t v) => some (.val (.iface t v) S)
    | some (.func (.func f) a c) => some (.val (.func (.func f) a c) S)
    | _ => none
  | .binOp op t x y _ => match ρ x, ρ y with
    | some a, some b => bif plain a && plain b then fbk P S ρ o else outV (eqB P op t a b) S
    | _, _ => none
  | .convert src dst x => match ρ x with
    | some v => match cvt P S src dst v with
      | some (v, S') => some (.val v S')
      | none => fbk P S ρ o
    | none => none
  | .makeInterface t x => match ρ x with
    | some v => match P.underlying t with
      | some (.interface _) | none => none
      | some _ => some (.val (.iface t v) S)
    | none => none
  | .makeFunc fn a c => match opnds ρ a.toList, opnds ρ c.toList with
    | some va, some vc => some (.val (.func fn ⟨va⟩ ⟨vc⟩) S)
    | _, _ => none
  | .makeMap t h => match bnd ρ h with
    | some h => outVS (mkM P S t h)
    | none => none
  | .makeSlice t l c => match ρ l, ρ c with
    | some a, some b => outVS (mkS P S t a b)
    | _, _ => none
  | .slice t x lo hi mx => match ρ x, bnd ρ lo, bnd ρ hi, bnd ρ mx with
    | some v, some l, some h, some m => bif plain v then fbk P S ρ o else outVS (slc P S t v l h m)
    | _, _, _, _ => none
  | .fieldAddr s x f => match ρ x with
    | some v => outV (fla P s v f) S
    | none => none
  | .field t x f => match ρ x with
    | some v => outV (fld P t v f) S
    | none => none
  | .indexAddr t x i => match ρ x, ρ i with
    | some v, some j => bif scalar j then outV (ixa P t v j) S else none
    | _, _ => none
  | .index t x i => match ρ x, ρ i with
    | some v, some j => bif plain v && plain j then fbk P S ρ o else bif scalar j then outV (idx P t v j) S else none
    | _, _ => none
  | .lookup t x k ok => match ρ x, ρ k with
    | some v, some j => outV (lkp P S t v j ok) S
    | _, _ => none
  | .mapUpdate t m k x | .insert t m k x => match ρ m, ρ k, ρ x with
    | some a, some b, some c => outS (mup P S t a b c)
    | _, _, _ => none
  | .range t x => match ρ x with
    | some v => outVS (rng P S t v)
    | none => none
  | .next it str => match ρ it with
    | some v => outVS (nxt S v str)
    | none => none
  | .extract t i => match ρ t with
    | some (.tuple vs) => outV vs[i]? S
    | _ => none
  | .call c =>
    match opnds ρ c.args.toList with
    | some args =>
      match c.callee with
      | .value f => match ρ f with
        | some (.func (.func g) first captured) => callA P S g (first.toList ++ args ++ captured.toList)
        | _ => none
      | .invoke recv name => match ρ recv with
        | some (.iface t v) => match mth P S t v name with
          | some (g, x) => callA P S g (x :: args)
          | none => none
        | _ => none
      | .builtin b => match bltA P S b c.argTypes.toList args with
        | some out => some out
        | none => fbk P S ρ o
    | none => none
  | _ => fbk P S ρ o
/-- What an operation comes to. -/
noncomputable def OutR (r : Ren) (S : St) (w : World) : Out → Result Next → Prop
  | .val v S', .ok nx w' => ∃ r' v', Fr r S w r' S' w' ∧ VR r' v v' ∧ (nx = .value v' ∨ (nx = .skip ∧ v' = undef))
  | .call f args, .ok nx w' => w' = w ∧ ∃ args', nx = .enter f ⟨args'⟩ ∧ VRs r args args'
  | _, _ => False
theorem fbk_sim {r : Ren} {S : St} {w : World} (hr : Rel r S w) {ρ : Operand → Option Value} {ρ' : Operand → Value} {o : Oper} (hρ : ∀ x ∈ o.op.operands, ∀ v, ρ x = some v → VR r v (ρ' x)) {out : Out} (h : fbk P S ρ o = some out) :
    OutR r S w out ((execOp ρ' o).run P w) := by
  unfold fbk at h
  cases hc : (plainAll ρ o.op.operands.toList && !isSelect o.op) with
  | false => rw [hc] at h; simp at h
  | true =>
    rw [hc] at h
    simp only [cond_true] at h
    simp only [Bool.and_eq_true, Bool.not_eq_true'] at hc
    obtain ⟨c1, c2⟩ := hc
    have hcongr : execOp ρ' o = execOp (fun x => (ρ x).getD undef) o := by
      refine execOp_congr o (fun cs b e => by rw [e] at c2; simp [isSelect] at c2) fun x hx => ?_
      have := List.all_eq_true.1 c1 x (by simpa using hx)
      cases hv : ρ x with
      | none => rw [hv] at this; simp at this
      | some v =>
        rw [hv] at this
        simp only [Option.getD_some]
        exact (hρ x hx v hv).plain_eq this
    split at h
    · rename_i v hp
      cases hpl : plain v with
      | false => rw [hpl] at h; simp at h
      | true =>
        rw [hpl] at h
        simp only [cond_true, Option.some.injEq] at h
        subst h
        rw [hcongr, pureRun_run hp w]
        exact ⟨r, v, Fr.refl hr, VR.pl hpl, .inl rfl⟩
    · cases h
theorem callA_sim {r : Ren} {S : St} {w : World} (hr : Rel r S w) {g : FuncId} {args args' : List Value} (ha : VRs r args args') {out : Out} (h : callA P S g args = some out) : OutR r S w out ((callFunc g ⟨args'⟩).run P w) := by
  unfold callA at h
  cases he : enters P g with
  | true =>
    rw [he] at h
    simp only [cond_true, Option.some.injEq] at h
    subst h
    rw [enters_run he]
    exact ⟨rfl, args', rfl, ha⟩
  | false =>
    rw [he] at h
    simp only [cond_false] at h
    cases hp : args.all plain with
    | false => rw [hp] at h; simp at h
    | true =>
      rw [hp] at h
      simp only [cond_true] at h
      have : args' = args := by
        have : ∀ {xs ys : List Value}, VRs r xs ys → xs.all plain = true → ys = xs := by
          intro xs ys hh
          induction xs generalizing ys with
          | nil => intro _; cases hh; rfl
          | cons x xs ih =>
            intro hp
            cases hh with
            | cons h1 h2 =>
              simp only [List.all_cons, Bool.and_eq_true] at hp
              rw [h1.plain_eq hp.1, ih h2 hp.2]
        exact this ha hp
      subst this
      split at h
      · rename_i v hpr
        cases hpl : plain v with
        | false => rw [hpl] at h; simp at h
        | true =>
          rw [hpl] at h
          simp only [cond_true, Option.some.injEq] at h
          subst h
          rw [pureRun_run hpr w]
          exact ⟨r, v, Fr.refl hr, VR.pl hpl, .inl rfl⟩
      · cases h
theorem bnd_sim {r : Ren} {ρ : Operand → Option Value} {ρ' : Operand → Value} {x : Option Operand} (hρ : ∀ y, x = some y → ∀ v, ρ y = some v → VR r v (ρ' y)) {l : Option Value} (h : bnd ρ x = some l) {n : Option Nat} (hn : numO l = some n) : x.map ρ' = l := by
  cases x with
  | none => simp only [bnd, Option.some.injEq] at h; subst h; rfl
  | some y =>
    unfold bnd at h
    simp only at h
    split at h
    · rename_i v hv
      simp only [Option.some.injEq] at h
      subst h
      cases n with
      | none => exact absurd (numO_none hn) (by simp)
      | some n =>
        obtain ⟨k, hk⟩ := numO_some hn
        simp only [Option.some.injEq] at hk
        subst hk
        have := hρ y rfl _ hv
        simp only [Option.map_some]
        rw [this.sc_eq rfl]
    · cases h
theorem out_val {r r' : Ren} {S S' : St} {w w' : World} {v v' : Value} {s : Sem Value} (h : s.run P w = .ok v' w') (hf : Fr r S w r' S' w') (hv : VR r' v v') : OutR r S w (.val v S') ((do pure (.value (← s)) : Sem Next).run P w) := by
  have : (do pure (.value (← s)) : Sem Next).run P w = .ok (.value v') w' := by simp [h]
  rw [this]
  exact ⟨r', v', hf, hv, .inl rfl⟩
theorem out_skip {r r' : Ren} {S S' : St} {w w' : World} {s : Sem Unit} (h : s.run P w = .ok () w') (hf : Fr r S w r' S' w') : OutR r S w (.val undef S') ((do s; pure .skip : Sem Next).run P w) := by
  have : (do s; pure .skip : Sem Next).run P w = .ok .skip w' := by simp [h]
  rw [this]
  exact ⟨r', undef, hf, .tuple .nil, .inr ⟨rfl, rfl⟩⟩
theorem outV_some {x : Option Value} {S : St} {out : Out} (h : outV x S = some out) : ∃ v, x = some v ∧ out = .val v S := by
  cases x with
  | none => cases h
  | some v => simp only [outV, Option.some.injEq] at h; exact ⟨v, rfl, h.symm⟩
theorem outVS_some {x : Option (Value × St)} {out : Out} (h : outVS x = some out) : ∃ v S, x = some (v, S) ∧ out = .val v S := by
  cases x with
  | none => cases h
  | some q => obtain ⟨v, S⟩ := q; simp only [outVS, Option.some.injEq] at h; exact ⟨v, S, rfl, h.symm⟩
theorem outS_some {x : Option St} {out : Out} (h : outS x = some out) : ∃ S, x = some S ∧ out = .val undef S := by
  cases x with
  | none => cases h
  | some S => simp only [outS, Option.some.injEq] at h; exact ⟨S, rfl, h.symm⟩
theorem VRs.two {r : Ren} {a b : Value} {l : List Value} (h : VRs r [a, b] l) : ∃ y z, l = [y, z] ∧ VR r a y ∧ VR r b z := by
  cases h with
  | cons h1 h => cases h with
    | cons h2 h => cases h; exact ⟨_, _, rfl, h1, h2⟩
theorem VRs.one' {r : Ren} {a : Value} {l : List Value} (h : VRs r [a] l) : ∃ y, l = [y] ∧ VR r a y := by
  cases h with
  | cons h1 h => cases h; exact ⟨_, rfl, h1⟩
theorem arr2 {α : Type} {x : Array α} {a b : α} (h : x.toList = [a, b]) : x = #[a, b] := by apply Array.ext'; simpa using h
theorem arr1 {α : Type} {x : Array α} {a : α} (h : x.toList = [a]) : x = #[a] := by apply Array.ext'; simpa using h
theorem builtin_sim {r : Ren} {S : St} {w : World} (hr : Rel r S w) {c : Call} {b : Builtin} {type : TypeId} {ρ' : Operand → Value} {args : List Value} (ha : VRs r args (c.args.toList.map ρ')) {out : Out}
    (h : bltA P S b c.argTypes.toList args = some out) (cs : Array Bool) : OutR r S w out ((Go.builtin b c.argTypes type cs (c.args.map ρ')).run P w) := by
  have eargs : c.args.map ρ' = ⟨c.args.toList.map ρ'⟩ := by apply Array.ext'; simp
  rw [eargs]
  generalize c.args.toList.map ρ' = args' at ha
  unfold bltA at h
  split at h
  · rename_i ts tx s x htl
    rw [arr2 htl]
    obtain ⟨y1, y2, rfl, h1, h2⟩ := ha.two
    obtain ⟨v, S', h3, rfl⟩ := outVS_some h
    obtain ⟨r', w', v', g1, g2, g3⟩ := app_sim (P := P) (ty := type) hr h1 h2 h3
    exact out_val g1 g2 g3
  · rename_i ts tx s x htl
    rw [arr2 htl]
    obtain ⟨y1, y2, rfl, h1, h2⟩ := ha.two
    obtain ⟨v, S', h3, rfl⟩ := outVS_some h
    obtain ⟨w', g1, g2, g3⟩ := cpy_sim (P := P) (ty := type) hr h1 h2 h3
    exact out_val g1 g2 (VR.pl g3)
  · rename_i t x htl
    rw [arr1 htl]
    obtain ⟨y1, rfl, h1⟩ := ha.one'
    obtain ⟨S', h3, rfl⟩ := outS_some h
    obtain ⟨w', g1, g2⟩ := clr_sim (P := P) (ty := type) hr h1 h3
    exact out_val g1 g2 (.tuple .nil)
  · rename_i t tk m k htl
    rw [arr2 htl]
    obtain ⟨y1, y2, rfl, h1, h2⟩ := ha.two
    obtain ⟨S', h3, rfl⟩ := outS_some h
    have hk : plain k = true := by
      unfold mdl at h3
      split at h3
      · split at h3
        · cases hp : plain k with
          | true => rfl
          | false => rw [hp] at h3; simp at h3
        · cases h3
      · cases h3
    have := h2.plain_eq hk
    subst this
    obtain ⟨w', g1, g2⟩ := mdl_sim (P := P) (tk := tk) (ty := type) hr h1 h3
    exact out_val g1 g2 (.tuple .nil)
  · rename_i t x htl
    rw [arr1 htl]
    obtain ⟨y1, rfl, h1⟩ := ha.one'
    cases hp : plain x with
    | true => rw [hp] at h; simp at h
    | false =>
      rw [hp] at h
      simp only [cond_false] at h
      split at h
      · rename_i e a n cp hu
        simp only [Option.some.injEq] at h
        subst h
        refine out_val (w' := w) (v' := goInt n) ?_ (Fr.refl hr) (.sc _ rfl)
        cases h1 <;> simp [Builtin.len_, run_und hu]
      · rename_i k e m hu
        split at h
        · rename_i es cl hg
          simp only [Option.some.injEq] at h
          subst h
          obtain ⟨_, es', q1, q2⟩ := hr.objs m _ hg
          refine out_val (w' := w) (v' := goInt es.length) ?_ (Fr.refl hr) (.sc _ rfl)
          cases h1 with
          | sc _ hh => simp [scalar] at hh
          | map _ _ =>
            have := run_getMap (P := P) q1 (fun _ _ _ h => by cases h)
            simp [Builtin.len_, run_und hu, this, q2.length]
        · cases h
      · cases h
  · rename_i t x htl
    rw [arr1 htl]
    obtain ⟨y1, rfl, h1⟩ := ha.one'
    cases hp : plain x with
    | true => rw [hp] at h; simp at h
    | false =>
      rw [hp] at h
      simp only [cond_false] at h
      split at h
      · rename_i e b o l n hu
        cases hb : Nat.beq (b % 2) 0 with
        | false => rw [hb] at h; simp at h
        | true =>
          rw [hb] at h
          simp only [cond_true, Option.some.injEq] at h
          subst h
          have hb := beq0 hb
          refine out_val (w' := w) (v' := goInt n) ?_ (Fr.refl hr) (.sc _ rfl)
          cases h1 with
          | sc _ hh => simp [scalar] at hh
          | slE => simp [Builtin.cap_, run_und hu]
          | slO _ _ _ _ _ _ _ ho => omega
          | slK _ _ _ _ _ _ _ ho => omega
      · cases h
  · cases h
theorem aop_sim {r : Ren} {S : St} {w : World} (hr : Rel r S w) {ρ : Operand → Option Value} {ρ' : Operand → Value} {o : Oper} (hρ : ∀ x ∈ o.op.operands, ∀ v, ρ x = some v → VR r v (ρ' x)) {out : Out} (h : aop P S ρ o = some out) :
    OutR r S w out ((execOp ρ' o).run P w) := by
  have hfb : fbk P S ρ o = some out → OutR r S w out ((execOp ρ' o).run P w) := fbk_sim hr hρ
  obtain ⟨dst, op, type, pos, after, guard⟩ := o
  cases op with
  | move x =>
    obtain ⟨v, hv, rfl⟩ := outV_some h
    exact ⟨r, ρ' x, Fr.refl hr, hρ x (by simp [Op.operands]) v hv, .inl rfl⟩
  | assign x =>
    obtain ⟨v, hv, rfl⟩ := outV_some h
    exact ⟨r, ρ' x, Fr.refl hr, hρ x (by simp [Op.operands]) v hv, .inl rfl⟩
  | pick c a b =>
    simp only [aop] at h
    split at h
    · rename_i t va vb hc ha hb
      simp only [Option.some.injEq] at h
      subst h
      have h1 := (hρ c (by simp [Op.operands]) _ hc).sc_eq rfl
      have h2 := hρ a (by simp [Op.operands]) _ ha
      have h3 := hρ b (by simp [Op.operands]) _ hb
      have : (execOp ρ' ⟨dst, .pick c a b, type, pos, after, guard⟩).run P w = .ok (.value (if t then ρ' a else ρ' b)) w := by simp [execOp, h1, asBool]
      rw [this]
      refine ⟨r, _, Fr.refl hr, ?_, .inl rfl⟩
      cases t <;> simpa
    · cases h
  | alloc e =>
    simp only [aop] at h
    split at h
    · rename_i z hz
      cases hp : plain z with
      | false => rw [hp] at h; simp at h
      | true =>
        rw [hp] at h
        obtain ⟨v, S', h1, rfl⟩ := outVS_some h
        obtain ⟨r', w', x', g1, g2, g3⟩ := alloc_sim (P := P) hr hz hp h1
        exact out_val g1 g2 g3
    · cases h
  | box e x =>
    simp only [aop] at h
    split at h
    · rename_i v hv
      obtain ⟨v2, S', h1, rfl⟩ := outVS_some h
      obtain ⟨r', w', x', g1, g2, g3⟩ := box_sim (P := P) hr (hρ x (by simp [Op.operands]) _ hv) h1
      exact out_val g1 g2 g3
    · cases h
  | build t ps =>
    simp only [aop] at h
    split at h
    · rename_i vs hv
      obtain ⟨v2, h1, rfl⟩ := outV_some h
      have hps := pairs_sim (r := r) (ρ' := ρ') (fun x hx v hv => hρ x (by simpa [Op.operands] using hx) v hv) hv
      obtain ⟨x', g1, g2⟩ := bld_sim (P := P) (ps' := ps.map fun (i, x) => (i, ρ' x)) (by simpa using hps) h1 w
      exact out_val g1 (Fr.refl hr) g2
    · cases h
  | buildSlice t n ps =>
    simp only [aop] at h
    split at h
    · rename_i vs hv
      obtain ⟨v2, S', h1, rfl⟩ := outVS_some h
      have hps := pairs_sim (r := r) (ρ' := ρ') (fun x hx v hv => hρ x (by simpa [Op.operands] using hx) v hv) hv
      obtain ⟨r', w', x', g1, g2, g3⟩ := bldS_sim (P := P) hr (ps' := ps.map fun (i, x) => (i, ρ' x)) (by simpa using hps) h1
      exact out_val g1 g2 g3
    · cases h
  | load t a =>
    simp only [aop] at h
    split at h
    · rename_i v hv
      obtain ⟨v2, h1, rfl⟩ := outV_some h
      obtain ⟨x', g1, g2⟩ := ld_sim (P := P) hr (hρ a (by simp [Op.operands]) _ hv) h1
      exact out_val g1 (Fr.refl hr) g2
    · cases h
  | store t a x =>
    simp only [aop] at h
    split at h
    · rename_i v u hv hu
      obtain ⟨S', h1, rfl⟩ := outS_some h
      obtain ⟨w', g1, g2⟩ := sto_sim (P := P) hr (hρ a (by simp [Op.operands]) _ hv) (hρ x (by simp [Op.operands]) _ hu) h1
      exact out_skip g1 g2
    · cases h
  | nilCheck x =>
    simp only [aop] at h
    split at h
    · rename_i a hv
      simp only [Option.some.injEq] at h
      subst h
      have hx := hρ x (by simp [Op.operands]) _ hv
      have : (execOp ρ' ⟨dst, .nilCheck x, type, pos, after, guard⟩).run P w = .ok (.value (ρ' x)) w := by
        generalize hq : ρ' x = q at hx
        cases hx with
        | sc _ h => simp [scalar] at h
        | ptr => simp [execOp, hq]
      rw [this]
      exact ⟨r, _, Fr.refl hr, hx, .inl rfl⟩
    · rename_i t v hv
      simp only [Option.some.injEq] at h
      subst h
      have hx := hρ x (by simp [Op.operands]) _ hv
      have : (execOp ρ' ⟨dst, .nilCheck x, type, pos, after, guard⟩).run P w = .ok (.value (ρ' x)) w := by
        generalize hq : ρ' x = q at hx
        cases hx with
        | sc _ h => simp [scalar] at h
        | iface => simp [execOp, hq]
      rw [this]
      exact ⟨r, _, Fr.refl hr, hx, .inl rfl⟩
    · rename_i f a c hv
      simp only [Option.some.injEq] at h
      subst h
      have hx := hρ x (by simp [Op.operands]) _ hv
      have : (execOp ρ' ⟨dst, .nilCheck x, type, pos, after, guard⟩).run P w = .ok (.value (ρ' x)) w := by
        generalize hq : ρ' x = q at hx
        cases hx with
        | sc _ h => simp [scalar] at h
        | func => simp [execOp, hq]
      rw [this]
      exact ⟨r, _, Fr.refl hr, hx, .inl rfl⟩
    · cases h
  | binOp bop t x y yt =>
    simp only [aop] at h
    split at h
    · rename_i a b ha hb
      cases hp : (plain a && plain b) with
      | true => rw [hp] at h; exact hfb h
      | false =>
        rw [hp] at h
        obtain ⟨v2, h1, rfl⟩ := outV_some h
        obtain ⟨g1, g2⟩ := eqB_sim (P := P) (hρ x (by simp [Op.operands]) _ ha) (hρ y (by simp [Op.operands]) _ hb) x y h1 w
        exact out_val g1 (Fr.refl hr) (VR.pl g2)
    · cases h
  | convert src d x =>
    simp only [aop] at h
    split at h
    · rename_i v hv
      split at h
      · rename_i v2 S' hc
        simp only [Option.some.injEq] at h
        subst h
        obtain ⟨r', w', x', g1, g2, g3⟩ := cvt_sim (P := P) hr (hρ x (by simp [Op.operands]) _ hv) hc
        exact out_val g1 g2 g3
      · exact hfb h
    · cases h
  | makeInterface t x =>
    simp only [aop] at h
    split at h
    · rename_i v hv
      split at h
      · cases h
      · cases h
      · rename_i d hne hu
        simp only [Option.some.injEq] at h
        subst h
        refine out_val (w' := w) (v' := .iface t (ρ' x)) ?_ (Fr.refl hr) (.iface t (hρ x (by simp [Op.operands]) _ hv))
        cases d <;> first | (simp [Instr.makeInterface, run_und hu]; done) | (exfalso; exact hne _ rfl)
    · cases h
  | makeFunc fn a c =>
    simp only [aop] at h
    split at h
    · rename_i va vc ha hc
      simp only [Option.some.injEq] at h
      subst h
      have h1 := opnds_sim (r := r) (ρ' := ρ') (fun x hx v hv => hρ x (by simp only [Op.operands, Array.mem_append]; exact .inl (by simpa using hx)) v hv) ha
      have h2 := opnds_sim (r := r) (ρ' := ρ') (fun x hx v hv => hρ x (by simp only [Op.operands, Array.mem_append]; exact .inr (by simpa using hx)) v hv) hc
      refine out_val (w' := w) (v' := .func fn ⟨a.toList.map ρ'⟩ ⟨c.toList.map ρ'⟩) ?_ (Fr.refl hr) (.func fn h1 h2)
      have e1 : a.map ρ' = ⟨a.toList.map ρ'⟩ := by apply Array.ext'; simp
      have e2 : c.map ρ' = ⟨c.toList.map ρ'⟩ := by apply Array.ext'; simp
      rw [e1, e2]
      simp [Instr.makeFunc]
    · cases h
  | makeMap t hh =>
    simp only [aop] at h
    split at h
    · rename_i l hl
      obtain ⟨v2, S', h1, rfl⟩ := outVS_some h
      have e : hh.map ρ' = l := by
        cases hh with
        | none => simp only [bnd, Option.some.injEq] at hl; subst hl; rfl
        | some y =>
          unfold bnd at hl
          simp only at hl
          split at hl
          · rename_i v hv
            simp only [Option.some.injEq] at hl
            subst hl
            have := hρ y (by simp [Op.operands]) _ hv
            unfold mkM at h1
            split at h1
            · rename_i q; cases q
            · rename_i k n q
              injection q with q
              subst q
              simp [this.sc_eq rfl]
            · cases h1
          · cases hl
      obtain ⟨r', w', x', g1, g2, g3⟩ := mkM_sim (P := P) hr h1
      rw [← e] at g1
      exact out_val g1 g2 g3
    · cases h
  | makeSlice t l c =>
    simp only [aop] at h
    split at h
    · rename_i a b ha hb
      obtain ⟨v2, S', h1, rfl⟩ := outVS_some h
      have : scalar a = true ∧ scalar b = true := by
        unfold mkS at h1
        split at h1
        · exact ⟨rfl, rfl⟩
        · cases h1
      obtain ⟨r', w', x', g1, g2, g3⟩ := mkS_sim (P := P) hr h1
      rw [← (hρ l (by simp [Op.operands]) _ ha).sc_eq this.1, ← (hρ c (by simp [Op.operands]) _ hb).sc_eq this.2] at g1
      exact out_val g1 g2 g3
    · cases h
  | slice t x lo hi mx =>
    simp only [aop] at h
    split at h
    · rename_i v l hh m hv hl hhh hm
      cases hp : plain v with
      | true => rw [hp] at h; exact hfb h
      | false =>
        rw [hp] at h
        obtain ⟨v2, S', h1, rfl⟩ := outVS_some h
        have hn : ∃ a b c, numO l = some a ∧ numO hh = some b ∧ numO m = some c := by
          unfold slc at h1
          split at h1
          · exact ⟨_, _, _, ‹_›, ‹_›, ‹_›⟩
          · cases h1
        obtain ⟨a, b, c, n1, n2, n3⟩ := hn
        have e1 := bnd_sim (r := r) (ρ' := ρ') (fun y hy v hv => hρ y (by subst hy; simp [Op.operands]) v hv) hl n1
        have e2 := bnd_sim (r := r) (ρ' := ρ') (fun y hy v hv => hρ y (by subst hy; simp [Op.operands]) v hv) hhh n2
        have e3 := bnd_sim (r := r) (ρ' := ρ') (fun y hy v hv => hρ y (by subst hy; simp [Op.operands]) v hv) hm n3
        obtain ⟨rfl, x', g1, g3⟩ := slc_sim (P := P) hr (hρ x (by simp [Op.operands]) _ hv) h1
        rw [← e1, ← e2, ← e3] at g1
        exact out_val g1 (Fr.refl hr) g3
    · cases h
  | fieldAddr s x f =>
    simp only [aop] at h
    split at h
    · rename_i v hv
      obtain ⟨v2, h1, rfl⟩ := outV_some h
      obtain ⟨x', g1, g2⟩ := fla_sim (P := P) (hρ x (by simp [Op.operands]) _ hv) h1 w
      exact out_val g1 (Fr.refl hr) g2
    · cases h
  | field t x f =>
    simp only [aop] at h
    split at h
    · rename_i v hv
      obtain ⟨v2, h1, rfl⟩ := outV_some h
      obtain ⟨x', g1, g2⟩ := fld_sim (P := P) (hρ x (by simp [Op.operands]) _ hv) h1 w
      exact out_val g1 (Fr.refl hr) g2
    · cases h
  | indexAddr t x i =>
    simp only [aop] at h
    split at h
    · rename_i v j hv hj
      cases hp : scalar j with
      | false => rw [hp] at h; simp at h
      | true =>
        rw [hp] at h
        obtain ⟨v2, h1, rfl⟩ := outV_some h
        obtain ⟨x', g1, g2⟩ := ixa_sim (P := P) (hρ x (by simp [Op.operands]) _ hv) h1 w
        rw [← (hρ i (by simp [Op.operands]) _ hj).sc_eq hp] at g1
        exact out_val g1 (Fr.refl hr) g2
    · cases h
  | index t x i =>
    simp only [aop] at h
    split at h
    · rename_i v j hv hj
      cases hpp : (plain v && plain j) with
      | true => rw [hpp] at h; exact hfb h
      | false =>
        rw [hpp] at h
        simp only [cond_false] at h
        cases hp : scalar j with
        | false => rw [hp] at h; simp at h
        | true =>
          rw [hp] at h
          obtain ⟨v2, h1, rfl⟩ := outV_some h
          obtain ⟨x', g1, g2⟩ := idx_sim (P := P) (hρ x (by simp [Op.operands]) _ hv) h1 w
          rw [← (hρ i (by simp [Op.operands]) _ hj).sc_eq hp] at g1
          exact out_val g1 (Fr.refl hr) g2
    · cases h
  | lookup t x k ok =>
    simp only [aop] at h
    split at h
    · rename_i v j hv hj
      obtain ⟨v2, h1, rfl⟩ := outV_some h
      have hp : plain j = true := by
        unfold lkp at h1
        split at h1
        · cases hp : plain j with
          | true => rfl
          | false => rw [hp] at h1; simp at h1
        · cases h1
      obtain ⟨x', g1, g2⟩ := lkp_sim (P := P) hr (hρ x (by simp [Op.operands]) _ hv) h1
      rw [← (hρ k (by simp [Op.operands]) _ hj).plain_eq hp] at g1
      exact out_val g1 (Fr.refl hr) g2
    · cases h
  | mapUpdate t m k x =>
    simp only [aop] at h
    split at h
    · rename_i a b c ha hb hc
      obtain ⟨S', h1, rfl⟩ := outS_some h
      have hp : plain b = true := by
        unfold mup at h1
        split at h1
        · split at h1
          · cases hp : plain b with
            | true => rfl
            | false => rw [hp] at h1; simp at h1
          · cases h1
        · cases h1
      obtain ⟨w', g1, g2⟩ := mup_sim (P := P) hr (hρ m (by simp [Op.operands]) _ ha) (hρ x (by simp [Op.operands]) _ hc) h1
      rw [← (hρ k (by simp [Op.operands]) _ hb).plain_eq hp] at g1
      exact out_skip g1 g2
    · cases h
  | insert t m k x =>
    simp only [aop] at h
    split at h
    · rename_i a b c ha hb hc
      obtain ⟨S', h1, rfl⟩ := outS_some h
      have hp : plain b = true := by
        unfold mup at h1
        split at h1
        · split at h1
          · cases hp : plain b with
            | true => rfl
            | false => rw [hp] at h1; simp at h1
          · cases h1
        · cases h1
      obtain ⟨w', g1, g2⟩ := mup_sim (P := P) hr (hρ m (by simp [Op.operands]) _ ha) (hρ x (by simp [Op.operands]) _ hc) h1
      rw [← (hρ k (by simp [Op.operands]) _ hb).plain_eq hp] at g1
      exact out_skip g1 g2
    · cases h
  | range t x =>
    simp only [aop] at h
    split at h
    · rename_i v hv
      obtain ⟨v2, S', h1, rfl⟩ := outVS_some h
      obtain ⟨r', w', x', g1, g2, g3⟩ := rng_sim (P := P) hr (hρ x (by simp [Op.operands]) _ hv) h1
      exact out_val g1 g2 g3
    · cases h
  | next it str =>
    simp only [aop] at h
    split at h
    · rename_i v hv
      obtain ⟨v2, S', h1, rfl⟩ := outVS_some h
      obtain ⟨w', x', g1, g2, g3⟩ := nxt_sim (P := P) hr type (hρ it (by simp [Op.operands]) _ hv) h1
      exact out_val g1 g2 g3
    · cases h
  | extract t i =>
    simp only [aop] at h
    split at h
    · rename_i vs hv
      obtain ⟨v2, h1, rfl⟩ := outV_some h
      have hx := hρ t (by simp [Op.operands]) _ hv
      generalize hq : ρ' t = q at hx
      cases hx with
      | sc _ h => simp [scalar] at h
      | tuple hs =>
        rename_i xs xs'
        obtain ⟨x', e1, e2⟩ := hs.get (j := i) (v := v2) (by simpa using h1)
        refine out_val (w' := w) (v' := x') ?_ (Fr.refl hr) e2
        rw [hq]
        simp [Instr.extract, e1]
    · cases h
  | call c =>
    simp only [aop] at h
    split at h
    · rename_i args hargs
      have ha := opnds_sim (r := r) (ρ' := ρ') (fun x hx v hv => hρ x (by simp only [Op.operands, Call.operands, Array.mem_append]; exact .inr (by simpa using hx)) v hv) hargs
      have eargs : c.args.map ρ' = ⟨c.args.toList.map ρ'⟩ := by apply Array.ext'; simp
      split at h
      · rename_i f hcal
        split at h
        · rename_i g first captured hv
          have hx := hρ f (by simp [Op.operands, Call.operands, hcal]) _ hv
          generalize hq : ρ' f = q at hx
          cases hx with
          | sc _ h => simp [scalar] at h
          | func _ h1 h2 =>
            rename_i a1 a2 b1 b2
            have := callA_sim (P := P) hr ((h1.append ha).append h2) h
            have e : (execOp ρ' ⟨dst, .call c, type, pos, after, guard⟩).run P w = (callFunc g ⟨a2 ++ c.args.toList.map ρ' ++ b2⟩).run P w := by
              simp [execOp, resolve, hcal, hq, Deferred.ofValue, invoke]
              congr 2
              apply Array.ext'
              simp
            rw [e]
            exact this
        · cases h
      · rename_i recv name hcal
        split at h
        · rename_i t v hv
          split at h
          · rename_i g x hm
            have hx := hρ recv (by simp [Op.operands, Call.operands, hcal]) _ hv
            generalize hq : ρ' recv = q at hx
            cases hx with
            | sc _ h => simp [scalar] at h
            | iface _ hvv =>
              rename_i v'
              obtain ⟨x', m1, m2⟩ := mth_sim (P := P) hr hvv hm (P.types.size + Made.depth - 1)
              have hd : P.types.size + Made.depth - 1 + 1 = P.types.size + Made.depth := by
                have : 0 < Made.depth := by decide
                omega
              rw [hd] at m1
              have := callA_sim (P := P) hr (.cons m2 ha) h
              have e : (execOp ρ' ⟨dst, .call c, type, pos, after, guard⟩).run P w = (callFunc g ⟨x' :: c.args.toList.map ρ'⟩).run P w := by
                have q0 : (#[Value.iface t v'] ++ c.args.map ρ')[0]? = some (Value.iface t v') := by
                  rw [Array.getElem?_append_left (by simp)]; rfl
                have q1 : (#[x'] ++ (c.args.map ρ').extract 0 c.args.size) = ⟨x' :: c.args.toList.map ρ'⟩ := by
                  apply Array.ext'; simp [List.take_of_length_le]
                simp [execOp, resolve, hcal, hq, invoke, callMethod, q0, m1, q1]
              rw [e]
              exact this
          · cases h
        · cases h
      · rename_i b hcal
        have eop : execOp ρ' ⟨dst, .call c, type, pos, after, guard⟩ = Go.builtin b c.argTypes type (c.args.map fun | .const _ => true | _ => false) (c.args.map ρ') := by
          simp only [execOp, resolve, hcal]
          rfl
        split at h
        · rename_i out' hbl
          simp only [Option.some.injEq] at h
          subst h
          rw [eop]
          exact builtin_sim (P := P) hr ha hbl _
        · exact hfb h
    · cases h
  | _ => exact hfb h
end
end Go.Proofs.YtcandpiafgicbaaGreatDoor.Ev
