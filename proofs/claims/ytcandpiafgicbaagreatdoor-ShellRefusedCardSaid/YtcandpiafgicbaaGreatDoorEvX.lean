/- The evaluator: what it says, the program does. -/
import Derived.Test.YtcandpiafgicbaaGreatDoorEvW
import Derived.Deep.LoopGhost
namespace Go.Proofs.YtcandpiafgicbaaGreatDoor.Ev
open Go hiding Obj
set_option linter.unusedVariables false
set_option linter.unusedSimpArgs false
set_option linter.unusedSectionVars false
variable [Gl]
section
variable {P : Program}
/-- How a piece of code ends. -/
noncomputable def Ex.is : Ex → Exit → Prop
  | .normal, .normal => True
  | .exit i, .exit j => i = j
  | .goto i, .goto j => i = j
  | .ret, .ret => True
  | _, _ => False
noncomputable def PrimOk (P : Program) (pr : Prims) : Prop := ∀ f g, pr f = some g → ∀ args S v S', g args S = some (v, S') → ∀ r w args', Rel r S w → VRs r args args' →
  Calls P f ⟨args'⟩ w fun e w' => ∃ r' v', e = .returned v' ∧ Fr r S w r' S' w' ∧ VR r' v v'
theorem envOf_at : ∀ (args : List Value) (i t : Nat) (v : Value), Tr.get (envOf args i) t = some v → i ≤ t ∧ args[t - i]? = some v
  | [], i, t, v, h => by
    simp only [envOf, Tr.get_nil] at h
    cases h
  | a :: args, i, t, v, h => by
    rcases Tr.get_ins h with ⟨rfl, rfl⟩ | ⟨hne, h⟩
    · simp
    · obtain ⟨h1, h2⟩ := envOf_at args (i + 1) t v h
      refine ⟨by omega, ?_⟩
      rw [show t - i = (t - (i + 1)) + 1 by omega]
      simpa using h2
theorem envOf_rel {r : Ren} {args args' : List Value} (h : VRs r args args') (n : Nat) : EnvR r ⟨envOf args 0, args.length + (n - args.length)⟩ ((⟨args'⟩ : Array Value) ++ Array.replicate (n - (⟨args'⟩ : Array Value).size) undef) := by
  have hl := h.length
  refine ⟨by simp [hl], fun t v hv => ?_⟩
  obtain ⟨_, h2⟩ := envOf_at args 0 t v hv
  obtain ⟨v', h3, h4⟩ := h.get (by simpa using h2)
  have hlt := (List.getElem?_eq_some_iff.1 h3).1
  refine ⟨v', ?_, h4⟩
  rw [Array.getElem?_append_left (by simpa using hlt)]
  simpa using h3
noncomputable def resOne (tmps : Array Value) : ResultVar → Sem Value
  | .tmp t => pure (tmps.getD t undef)
  | .cell a t => do loadVar t (← asAddr (tmps.getD a undef))
theorem resV_sim {r : Ren} {S : St} {w : World} (hr : Rel r S w) {env : Env} {tmps : Array Value} (he : EnvR r env tmps) : ∀ {rs : List ResultVar} {vs : List Value}, resV P S env rs = some vs → ∃ vs', (rs.mapM (resOne tmps)).run P w = .ok vs' w ∧ VRs r vs vs'
  | [], vs, h => by simp only [resV, Option.some.injEq] at h; subst h; exact ⟨[], by simp, .nil⟩
  | .tmp t :: rs, vs, h => by
    unfold resV at h
    split at h
    · rename_i v vs2 h1 h2
      simp only [Option.some.injEq] at h
      subst h
      obtain ⟨v', g1, g2⟩ := he.at_ t v h1
      obtain ⟨vs', g3, g4⟩ := resV_sim hr he h2
      refine ⟨v' :: vs', ?_, .cons g2 g4⟩
      have h0 : (resOne tmps (.tmp t)).run P w = .ok v' w := by simp [resOne, Array.getD_eq_getD_getElem?, g1]
      simp only [List.mapM_cons, Sem.run_bind, h0, Result.andThen_ok, g3, Sem.run_pure]
    · cases h
  | .cell a t :: rs, vs, h => by
    unfold resV at h
    split at h
    · rename_i x h1
      split at h
      · rename_i v vs2 h2 h3
        simp only [Option.some.injEq] at h
        subst h
        obtain ⟨x', g1, g2⟩ := he.at_ a x h1
        obtain ⟨v', g3, g4⟩ := ld_sim (P := P) hr g2 h2
        obtain ⟨vs', g5, g6⟩ := resV_sim hr he h3
        obtain ⟨b, o, rfl⟩ := ld_ptr h2
        have hA : ∃ A, x' = .pointer (some A) := by
          cases g2 with
          | ptr => exact ⟨_, rfl⟩
          | sc _ h => simp [scalar] at h
        obtain ⟨A, rfl⟩ := hA
        simp [Instr.loadAt, Instr.sureAddr] at g3
        refine ⟨v' :: vs', ?_, .cons g4 g6⟩
        have h0 : (resOne tmps (.cell a t)).run P w = .ok v' w := by simp [resOne, Array.getD_eq_getD_getElem?, g1, asAddr, g3]
        simp only [List.mapM_cons, Sem.run_bind, h0, Result.andThen_ok, g5, Sem.run_pure]
      · cases h
    · cases h
theorem results_of {fn : Func} {tmps : Array Value} {w : World} {vs : List Value} (h : (fn.results.toList.mapM (resOne tmps)).run P w = .ok vs w) : (results fn tmps).run P w = .ok (match vs with | [v] => v | vs => .tuple ⟨vs⟩) w := by
  have e : results fn tmps = (do let vs ← fn.results.mapM (resOne tmps); pure (if h : vs.size = 1 then vs[0] else .tuple vs)) := rfl
  rw [e, Array.mapM_eq_mapM_toList]
  simp only [Sem.run_bind, Sem.run_map, h]
  rcases vs with _ | ⟨v, _ | ⟨v2, t⟩⟩ <;> simp
theorem ev_succ (pr : Prims) (n : Nat) : ev P pr (n + 1) = evStep P pr (ev P pr n) := rfl
/-- What evaluation to 'res' promises. -/
noncomputable def Ends (P : Program) (c : Code) (env : Env) (S : St) (res : Ex × Env × St) : Prop :=
  ∀ (r : Ren) (a : Act) (w : World), Rel r S w → EnvR r env a.tmps → a.defers = [] →
    c.wp P (fun e a' w' => res.1.is e ∧ ∃ r', Fr r S w r' res.2.2 w' ∧ EnvR r' res.2.1 a'.tmps ∧ a'.defers = []) a w
theorem callE_ok {pr : Prims} (hpr : PrimOk P pr) {ih : Code → Env → St → Option (Ex × Env × St)} (hih : ∀ c env S res, ih c env S = some res → Ends P c env S res) : CallOk P (callE P pr ih) := by
  intro f args S v S' h r w args' hr ha
  unfold callE at h
  split at h
  · rename_i g hg
    exact hpr f g hg args S v S' h r w args' hr ha
  · split at h
    case h_2 => cases h
    rename_i fn hfn
    split at h
    case h_2 => cases h
    rename_i c hc
    have key : ∀ x env S2, ih c ⟨envOf args 0, args.length + (fn.ntmps - args.length)⟩ S = some (x, env, S2) → (x = .normal ∨ x = .ret) → (match resV P S2 env fn.results.toList with | some [v] => some (v, S2) | some vs => some (.tuple ⟨vs⟩, S2) | none => none) = some (v, S') →
        Calls P f ⟨args'⟩ w fun e w' => ∃ r' v', e = .returned v' ∧ Fr r S w r' S' w' ∧ VR r' v v' := fun x env S2 he hx hres => by
      refine calls_of_wp hfn hc ?_
      refine wp_mono (hih c _ S _ he r _ w hr (envOf_rel ha fn.ntmps) rfl) ?_
      rintro e a' w' ⟨hex, r', f1, f2, f3⟩
      have hfin : ∃ v', (results fn a'.tmps).run P w' = .ok v' w' ∧ VR r' v v' ∧ S2 = S' := by
        cases hrv : resV P S2 env fn.results.toList with
        | none => rw [hrv] at hres; simp at hres
        | some vs =>
          rw [hrv] at hres
          obtain ⟨vs', g1, g2⟩ := resV_sim (P := P) f1.rel f2 hrv
          have hm := results_of g1
          match vs, hres with
          | [x], hres =>
            simp only [Option.some.injEq, Prod.mk.injEq] at hres
            obtain ⟨rfl, rfl⟩ := hres
            obtain ⟨y, rfl, hy⟩ := g2.one'
            exact ⟨y, hm, hy, rfl⟩
          | [], hres =>
            simp only [Option.some.injEq, Prod.mk.injEq] at hres
            obtain ⟨rfl, rfl⟩ := hres
            cases g2
            exact ⟨_, hm, .tuple .nil, rfl⟩
          | x1 :: x2 :: xs, hres =>
            simp only [Option.some.injEq, Prod.mk.injEq] at hres
            obtain ⟨rfl, rfl⟩ := hres
            have g2' := g2
            cases g2 with
            | cons h1 h2 => cases h2 with
              | cons h2 h3 => exact ⟨_, hm, .tuple g2', rfl⟩
      obtain ⟨v', q1, q2, rfl⟩ := hfin
      rcases hx with rfl | rfl
      · cases e <;> simp only [Ex.is] at hex
        exact ⟨f3, v', q1, r', v', rfl, f1, q2⟩
      · cases e <;> simp only [Ex.is] at hex
        exact ⟨f3, v', q1, r', v', rfl, f1, q2⟩
    split at h
    · rename_i env S2 he; exact key _ _ _ he (.inl rfl) h
    · rename_i env S2 he; exact key _ _ _ he (.inr rfl) h
    · cases h
theorem Ends.frame {c : Code} {env : Env} {S : St} {res : Ex × Env × St} (h : Ends P c env S res) {r0 : Ren} {S0 : St} {w0 : World} {r : Ren} {a : Act} {w : World} (hf : Fr r0 S0 w0 r S w) (he : EnvR r env a.tmps) (hd : a.defers = []) :
    c.wp P (fun e a' w' => res.1.is e ∧ ∃ r', Fr r0 S0 w0 r' res.2.2 w' ∧ EnvR r' res.2.1 a'.tmps ∧ a'.defers = []) a w :=
  wp_mono (h r a w hf.rel he hd) fun _ _ _ ⟨h1, r', h2, h3, h4⟩ => ⟨h1, r', hf.trans h2, h3, h4⟩
theorem ev_sound (hm : P.follows .mixedOrders = true) {pr : Prims} (hpr : PrimOk P pr) : ∀ (n : Nat) (c : Code) (env : Env) (S : St) (res : Ex × Env × St), ev P pr n c env S = some res → Ends P c env S res := by
  intro n
  induction n using Nat.strongRecOn with
  | _ n ih =>
    intro c env S res h
    cases n with
    | zero => exact absurd h (by simp [ev])
    | succ n =>
      rw [ev_succ] at h
      have ih' := ih n (Nat.lt_succ_self n)
      have hcall := callE_ok hpr ih'
      intro r a w hr he hd
      cases c with
      | skip =>
        simp only [evStep, Option.some.injEq] at h
        subst h
        exact wp_skip ⟨trivial, r, Fr.refl hr, he, hd⟩
      | label l =>
        simp only [evStep, Option.some.injEq] at h
        subst h
        exact wp_label ⟨trivial, r, Fr.refl hr, he, hd⟩
      | exit id =>
        simp only [evStep, Option.some.injEq] at h
        subst h
        exact wp_exit ⟨rfl, r, Fr.refl hr, he, hd⟩
      | goto l =>
        simp only [evStep, Option.some.injEq] at h
        subst h
        exact wp_goto ⟨rfl, r, Fr.refl hr, he, hd⟩
      | ret =>
        simp only [evStep, Option.some.injEq] at h
        subst h
        exact wp_ret ⟨trivial, r, Fr.refl hr, he, hd⟩
      | rangeFunc => simp [evStep] at h
      | scope => simp [evStep] at h
      | refuse => simp [evStep] at h
      | region id ops draw =>
        simp only [evStep] at h
        cases draw with
        | true =>
          simp only [cond_true] at h
          cases hD : evDraw P (callE P pr (ev P pr n)) ops env S with
          | none => rw [hD] at h; simp at h
          | some q =>
            obtain ⟨e1, s1⟩ := q
            rw [hD] at h
            simp only [Option.some.injEq] at h
            subst h
            exact evDraw_wp hm hcall hD hr he fun r' a' w' f1 f2 f3 => ⟨trivial, r', f1, f2, f3.trans hd⟩
        | false =>
          simp only [cond_false] at h
          cases hD : evOps P (callE P pr (ev P pr n)) ops ops.toList env S with
          | none => rw [hD] at h; simp at h
          | some q =>
            obtain ⟨e1, s1⟩ := q
            rw [hD] at h
            simp only [Option.some.injEq] at h
            subst h
            refine wp_region ?_
            have := evOps_wp hcall ops.toList 0 (by simp) hD (Q := fun e a' w' => (Ex.normal).is e ∧ ∃ r', Fr r S w r' s1 w' ∧ EnvR r' e1 a'.tmps ∧ a'.defers = []) hr he fun r' a' w' f1 f2 f3 => ⟨trivial, r', f1, f2, f3.trans hd⟩
            simpa using this
      | seq x y =>
        simp only [evStep] at h
        refine wp_seq ?_
        split at h
        · rename_i e1 s1 hx
          refine wp_mono (ih' x env S _ hx r a w hr he hd) ?_
          rintro e a' w' ⟨g1, r', g2, g3, g4⟩
          cases e <;> simp only [Ex.is] at g1
          exact (ih' y e1 s1 _ h).frame g2 g3 g4
        · rename_i hne
          refine wp_mono (ih' x env S _ h r a w hr he hd) ?_
          rintro e a' w' ⟨g1, g2⟩
          cases e with
          | normal =>
            obtain ⟨x1, e1, s1⟩ := res
            cases x1 <;> simp only [Ex.is] at g1
            exact absurd h (hne e1 s1)
          | _ => exact ⟨g1, g2⟩
      | cond x y z =>
        simp only [evStep] at h
        split at h
        · rename_i hx
          have := opd_sim (r := r) (a := a) (fun t _ v hv => he.at_ t v hv) hx
          exact wp_cond (t := true) (this.sc_eq rfl) (ih' y env S _ h r a w hr he hd)
        · rename_i hx
          have := opd_sim (r := r) (a := a) (fun t _ v hv => he.at_ t v hv) hx
          exact wp_cond (t := false) (this.sc_eq rfl) (ih' z env S _ h r a w hr he hd)
        · cases h
      | block id x =>
        simp only [evStep] at h
        refine wp_block ?_
        split at h
        · rename_i i e1 s1 hx
          refine wp_mono (ih' x env S _ hx r a w hr he hd) ?_
          rintro e a' w' ⟨g1, g2⟩
          cases e <;> simp only [Ex.is] at g1
          rename_i k
          subst g1
          simp only [Exit.inBlock]
          cases hb : Nat.beq i id with
          | true =>
            rw [hb] at h
            simp only [cond_true, Option.some.injEq] at h
            subst h
            rw [if_pos (beq0 hb)]
            exact ⟨trivial, g2⟩
          | false =>
            rw [hb] at h
            simp only [cond_false, Option.some.injEq] at h
            subst h
            rw [if_neg (nbeq0 hb)]
            exact ⟨rfl, g2⟩
        · rename_i hne
          refine wp_mono (ih' x env S _ h r a w hr he hd) ?_
          rintro e a' w' ⟨g1, g2⟩
          cases e with
          | exit k =>
            obtain ⟨x1, e1, s1⟩ := res
            cases x1 <;> simp only [Ex.is] at g1
            exact absurd h (hne _ e1 s1)
          | _ => exact ⟨g1, g2⟩
      | loop x =>
        refine wp_loop_ghost (fun k a' w' => k ≤ n + 1 ∧ ∃ env1 S1 r1, ev P pr k (.loop x) env1 S1 = some res ∧ Fr r S w r1 S1 w' ∧ EnvR r1 env1 a'.tmps ∧ a'.defers = []) (n + 1) ⟨Nat.le_refl _, env, S, r, by rw [ev_succ]; exact h, Fr.refl hr, he, hd⟩ ?_
        rintro k a1 w1 ⟨hk, env1, S1, r1, hev, f1, f2, f3⟩
        cases k with
        | zero => exact absurd hev (by simp [ev])
        | succ k =>
          rw [ev_succ] at hev
          simp only [evStep] at hev
          have ihk := ih k (by omega)
          split at hev
          · rename_i e2 s2 hx
            refine wp_mono (ihk x env1 S1 _ hx r1 a1 w1 f1.rel f2 f3) ?_
            rintro e a' w' ⟨g1, r', g2, g3, g4⟩
            cases e <;> simp only [Ex.is] at g1
            exact ⟨k, Nat.lt_succ_self k, by omega, e2, s2, r', hev, f1.trans g2, g3, g4⟩
          · rename_i hne
            refine wp_mono (ihk x env1 S1 _ hev r1 a1 w1 f1.rel f2 f3) ?_
            rintro e a' w' ⟨g1, r', g2, g3, g4⟩
            cases e with
            | normal =>
              obtain ⟨x1, e1, s1⟩ := res
              cases x1 <;> simp only [Ex.is] at g1
              exact absurd hev (hne e1 s1)
            | _ => exact ⟨g1, r', f1.trans g2, g3, g4⟩
/-- A call. -/
theorem call_sound (hm : P.follows .mixedOrders = true) {pr : Prims} (hpr : PrimOk P pr) (n : Nat) : CallOk P (callE P pr (ev P pr n)) := callE_ok hpr (ev_sound hm hpr n)
/-- A call without arguments, from whatever memory. -/
theorem closed_call (hm : P.follows .mixedOrders = true) {pr : Prims} (hpr : PrimOk P pr) (n : Nat) {f : FuncId} {v : Value} {S : St} (h : callE P pr (ev P pr n) f [] ⟨Hp.nil, 0⟩ = some (v, S)) (hv : plain v = true) (w : World) (hG : GlOk w) :
    Calls P f #[] w fun e w' => e = .returned v ∧ RowKit.Below w.heap.size w w' := by
  have hr : Rel ⟨0, id, id, id⟩ ⟨Hp.nil, 0⟩ w := ⟨fun p hp => ⟨(hG p hp).1, (by
      rintro ⟨i, o, h, _⟩
      simp only [St.get, Hp.get_nil] at h
      cases h), (hG p hp).2⟩, rfl, rfl, fun i o h => by
      simp only [St.get, Hp.get_nil] at h
      exact absurd h (by simp), fun i j oi oj h => by
      simp only [St.get, Hp.get_nil] at h
      cases h⟩
  refine (call_sound hm hpr n f [] _ v S h _ w [] hr .nil).mono ?_
  rintro e w' ⟨r', v', rfl, f1, f2⟩
  refine ⟨by rw [f2.plain_eq hv], f1.os, f1.tape, f1.output, f1.size, fun k hk => f1.kept k hk ?_⟩
  rintro ⟨i, o, hi, _⟩
  simp only [St.get, Hp.get_nil] at hi
  cases hi
end
end Go.Proofs.YtcandpiafgicbaaGreatDoor.Ev
