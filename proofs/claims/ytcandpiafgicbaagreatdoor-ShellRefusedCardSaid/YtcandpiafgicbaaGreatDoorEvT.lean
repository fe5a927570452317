/- The evaluator: one operation in its place; a region without a draw. -/
import Derived.Test.YtcandpiafgicbaaGreatDoorEvS
import Derived.Tactics
namespace Go.Proofs.YtcandpiafgicbaaGreatDoor.Ev
open Go hiding Obj
set_option linter.unusedVariables false
set_option linter.unusedSimpArgs false
set_option linter.unusedSectionVars false
variable [Gl]
section
variable {P : Program}
/-- The slots' values stand for those of the frame. -/
structure EnvR (r : Ren) (env : Env) (tmps : Array Value) : Prop where
  sz : env.sz = tmps.size
  at_ : ∀ t v, env.at t = some v → ∃ v', tmps[t]? = some v' ∧ VR r v v'
theorem EnvR.mono {r s : Ren} {env : Env} {tmps : Array Value} (h : EnvR r env tmps) (hl : r.le s) : EnvR s env tmps :=
  ⟨h.sz, fun t v hv => let ⟨v', h1, h2⟩ := h.at_ t v hv; ⟨v', h1, h2.mono hl⟩⟩
theorem Env.at_up {env : Env} {d : Option Tmp} {v x : Value} {t : Nat} (h : (env.up d v).at t = some x) : (d = some t ∧ x = v ∧ t < env.sz) ∨ (d ≠ some t ∧ env.at t = some x) := by
  cases d with
  | none => exact .inr ⟨by simp, h⟩
  | some k =>
    simp only [Env.up, Env.at] at h
    cases hb : Nat.blt k env.sz with
    | false =>
      rw [hb] at h
      simp only [cond_false, Tr.get_nil] at h
      cases h
    | true =>
      rw [hb] at h
      simp only [cond_true] at h
      rcases Tr.get_ins h with ⟨rfl, rfl⟩ | ⟨hne, h⟩
      · exact .inl ⟨rfl, rfl, by simpa [Nat.blt_eq] using hb⟩
      · exact .inr ⟨by simp; exact fun e => hne e.symm, h⟩
theorem Env.sz_up (env : Env) (d : Option Tmp) (v : Value) : (env.up d v).sz = env.sz := by cases d <;> rfl
theorem put_size (a : Act) (d : Option Tmp) (v : Value) : (a.put d v).tmps.size = a.tmps.size := by cases d <;> simp [Act.put]
theorem put_get (a : Act) (d : Option Tmp) (v : Value) {t : Nat} (ht : t < a.tmps.size) : (d = some t → (a.put d v).tmps[t]? = some v) ∧ (d ≠ some t → (a.put d v).tmps[t]? = a.tmps[t]?) := by
  cases d with
  | none => exact ⟨fun h => by simp at h, fun _ => rfl⟩
  | some k =>
    refine ⟨fun h => ?_, fun h => ?_⟩
    · injection h with h; subst h
      simp [Act.put, ht]
    · have : k ≠ t := fun e => h (by rw [e])
      simp [Act.put, Array.getElem?_setIfInBounds_ne this]
theorem EnvR.up {r : Ren} {env : Env} {a : Act} (h : EnvR r env a.tmps) (d : Option Tmp) {v v' : Value} (hv : VR r v v') : EnvR r (env.up d v) (a.put d v').tmps := by
  refine ⟨by rw [Env.sz_up, put_size]; exact h.sz, fun t x hx => ?_⟩
  rcases Env.at_up hx with ⟨hd, rfl, hlt⟩ | ⟨hd, hx⟩
  · exact ⟨v', (put_get a d v' (by rw [← h.sz]; exact hlt)).1 hd, hv⟩
  · obtain ⟨x', h1, h2⟩ := h.at_ t x hx
    exact ⟨x', by rw [(put_get a d v' (Array.getElem?_eq_some_iff.1 h1).1).2 hd]; exact h1, h2⟩
/-- What is known of calls. -/
noncomputable def CallOk (P : Program) (call : CallF) : Prop := ∀ f args S v S', call f args S = some (v, S') → ∀ r w args', Rel r S w → VRs r args args' →
  Calls P f ⟨args'⟩ w fun e w' => ∃ r' v', e = .returned v' ∧ Fr r S w r' S' w' ∧ VR r' v v'
theorem opd_sim {r : Ren} {env : Env} {a : Act} {x : Operand} (h : ∀ t, x = .tmp t → ∀ v, env.at t = some v → ∃ v', a.tmps[t]? = some v' ∧ VR r v v') {v : Value} (hv : opd env x = some v) : VR r v (a.eval x) := by
  cases x with
  | tmp t =>
    obtain ⟨v', h1, h2⟩ := h t rfl v hv
    simp only [Act.eval, Array.getD_eq_getD_getElem?, h1, Option.getD_some]
    exact h2
  | const c =>
    simp only [opd] at hv
    cases hp : plain c with
    | false => rw [hp] at hv; simp at hv
    | true => rw [hp] at hv; simp only [cond_true, Option.some.injEq] at hv; subst hv; exact VR.pl hp
  | global g => simp [opd] at hv
  | func f =>
    simp only [opd, Option.some.injEq] at hv
    subst hv
    exact .func _ .nil .nil
theorem want_sim {r : Ren} {env : Env} {a : Act} {ops : Array Oper} {o : Oper} (h : ∀ j w d, o.guard = some (j, w) → (ops[j]?).bind (·.dst) = some d → ∀ v, env.at d = some v → ∃ v', a.tmps[d]? = some v' ∧ VR r v v') {t : Bool}
    (hw : want ops env o = some t) : Region.wanted o (yielded ops a.tmps) = t := by
  unfold want at hw
  unfold Region.wanted
  cases hg : o.guard with
  | none => rw [hg] at hw; simp only [Option.some.injEq] at hw; exact hw
  | some jw =>
    obtain ⟨j, w⟩ := jw
    rw [hg] at hw
    simp only at hw ⊢
    unfold yielded
    cases hd : (ops[j]?).bind (·.dst) with
    | none => rw [hd] at hw; simp only [Option.some.injEq] at hw; subst hw; simp
    | some d =>
      rw [hd] at hw
      simp only at hw
      cases he : env.at d with
      | none => rw [he] at hw; simp at hw
      | some v =>
        obtain ⟨v', h1, h2⟩ := h j w d hg hd v he
        rw [he] at hw
        simp only [Option.bind_some, h1]
        cases h2 with
        | sc v hs =>
          cases v with
          | bool b => simp only [Option.some.injEq] at hw ⊢; subst hw; simp
          | _ => simp only [Option.some.injEq] at hw ⊢; subst hw; simp
        | _ => simp only [Option.some.injEq] at hw ⊢; subst hw; simp
/-- One operation. -/
theorem step_wp {call : CallF} (hcall : CallOk P call) {ops : Array Oper} {env : Env} {S S' : St} {o : Oper} {v : Value} (hs : stepOp P call ops env S o = some (v, S')) {r : Ren} {a : Act} {w : World} (hr : Rel r S w)
    (hρ : ∀ t, t ∈ reads ops o → ∀ v, env.at t = some v → ∃ v', a.tmps[t]? = some v' ∧ VR r v v') {K : Act → World → Prop} {Q : Exit → Act → World → Prop}
    (hK : ∀ r' v' w', Fr r S w r' S' w' → VR r' v v' → K (a.put o.dst v') w') :
    if Region.wanted o (yielded ops a.tmps) then o.wp P a w K Q ∨ (o.asks P a w ∧ LetsOut Q) else K (a.put o.dst undef) w := by
  have hops : ∀ x ∈ o.op.operands, ∀ v, opd env x = some v → VR r v (a.eval x) := fun x hx v hv => by
    refine opd_sim (fun t e u hu => ?_) hv
    subst e
    refine hρ t ?_ u hu
    unfold reads Oper.looksAt
    refine List.mem_append.2 (.inl ?_)
    rw [List.mem_filterMap]
    exact ⟨.tmp t, by simpa using hx, rfl⟩
  have hg : ∀ j w d, o.guard = some (j, w) → (ops[j]?).bind (·.dst) = some d → ∀ v, env.at d = some v → ∃ v', a.tmps[d]? = some v' ∧ VR r v v' := fun j w d hg hd v hv => by
    refine hρ d ?_ v hv
    unfold reads Oper.looksAt
    refine List.mem_append.2 (.inr ?_)
    rw [hg]
    simp [hd]
  unfold stepOp at hs
  cases hw : want ops env o with
  | none => rw [hw] at hs; simp at hs
  | some t =>
    rw [hw] at hs
    rw [want_sim hg hw]
    cases t with
    | false =>
      simp only [Option.some.injEq, Prod.mk.injEq] at hs
      obtain ⟨rfl, rfl⟩ := hs
      simp only [Bool.false_eq_true, if_false]
      exact hK r undef w (Fr.refl hr) (.tuple .nil)
    | true =>
      simp only [if_true]
      left
      simp only at hs
      cases ha : aop P S (opd env) o with
      | none => rw [ha] at hs; simp at hs
      | some out =>
        rw [ha] at hs
        have hsim := aop_sim (P := P) hr hops ha
        unfold Oper.wp
        cases out with
        | val v2 S2 =>
          simp only [Option.some.injEq, Prod.mk.injEq] at hs
          obtain ⟨rfl, rfl⟩ := hs
          cases hrun : (execOp a.eval o).run P w with
          | halt h w' => rw [hrun] at hsim; exact hsim.elim
          | ok nx w' =>
            rw [hrun] at hsim
            obtain ⟨r', v', h1, h2, h3⟩ := hsim
            rcases h3 with rfl | ⟨rfl, rfl⟩
            · exact hK r' v' w' h1 h2
            · exact hK r' undef w' h1 h2
        | call f args =>
          simp only at hs
          cases hrun : (execOp a.eval o).run P w with
          | halt h w' => rw [hrun] at hsim; exact hsim.elim
          | ok nx w' =>
            rw [hrun] at hsim
            obtain ⟨rfl, args', rfl, h2⟩ := hsim
            simp only [Oper.upon]
            refine (hcall f args S v S' hs r w' args' hr h2).mono ?_
            rintro e w'' ⟨r', v', rfl, g1, g2⟩
            exact hK r' v' w'' g1 g2
/-- A region without a draw. -/
theorem evOps_wp {call : CallF} (hcall : CallOk P call) {ops : Array Oper} {Q : Exit → Act → World → Prop} : ∀ (l : List Oper) (k : Nat), ops.toList.drop k = l → ∀ {env env' : Env} {S S' : St}, evOps P call ops l env S = some (env', S') →
    ∀ {r : Ren} {a : Act} {w : World}, Rel r S w → EnvR r env a.tmps → (∀ r' a' w', Fr r S w r' S' w' → EnvR r' env' a'.tmps → a'.defers = a.defers → Q .normal a' w') → wpOps P ops Q ((List.range ops.size).drop k) a w
  | [], k, hl, env, env', S, S', he, r, a, w, hr, henv, hQ => by
    simp only [evOps, Option.some.injEq, Prod.mk.injEq] at he
    obtain ⟨rfl, rfl⟩ := he
    have hk : ops.size ≤ k := by
      have := congrArg List.length hl
      simp at this; omega
    rw [List.drop_of_length_le (by simpa using hk)]
    exact hQ r a w (Fr.refl hr) henv rfl
  | o :: l, k, hl, env, env', S, S', he, r, a, w, hr, henv, hQ => by
    have hk : k < ops.size := by
      have := congrArg List.length hl
      simp at this; omega
    have ho : ops[k]? = some o := by
      have : (ops.toList.drop k)[0]? = some o := by rw [hl]; rfl
      simpa using this
    have hl' : ops.toList.drop (k + 1) = l := by
      rw [← List.tail_drop, hl]; rfl
    have hd : (List.range ops.size).drop k = k :: (List.range ops.size).drop (k + 1) := by
      rw [List.drop_eq_getElem_cons (by simpa using hk)]; simp
    rw [hd]
    unfold evOps at he
    cases hs : stepOp P call ops env S o with
    | none => rw [hs] at he; simp at he
    | some vs =>
      obtain ⟨v, S1⟩ := vs
      rw [hs] at he
      simp only at he
      simp only [wpOps, ho]
      refine step_wp hcall hs hr (fun t _ v hv => henv.at_ t v hv) fun r' v' w' h1 h2 => ?_
      refine evOps_wp hcall l (k + 1) hl' he h1.rel ((henv.mono h1.le).up o.dst h2) fun r'' a'' w'' g1 g2 g3 => hQ r'' a'' w'' (h1.trans g1) g2 (g3.trans (by cases o.dst <;> rfl))
end
end Go.Proofs.YtcandpiafgicbaaGreatDoor.Ev
