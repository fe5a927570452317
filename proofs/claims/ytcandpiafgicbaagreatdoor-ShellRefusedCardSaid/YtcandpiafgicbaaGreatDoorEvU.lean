/- The evaluator: a region that draws its order: plain facts. -/
import Derived.Test.YtcandpiafgicbaaGreatDoorEvT
namespace Go.Proofs.YtcandpiafgicbaaGreatDoor.Ev
open Go hiding Obj
set_option linter.unusedVariables false
set_option linter.unusedSimpArgs false
set_option linter.unusedSectionVars false
variable [Gl]
section
variable {P : Program}
/-- An operation that leaves the memory. -/
theorem slc_S {S S' : St} {t : TypeId} {x v : Value} {lo hi mx : Option Value} (h : slc P S t x lo hi mx = some (v, S')) : S' = S := by
  unfold slc at h
  split at h
  · split at h
    · split at h
      · unfold slcE at h
        simp only at h
        generalize (Nat.beq _ _ && _ && _ && _ && _) = c at h
        cases c with
        | false => simp at h
        | true => simp only [cond_true, Option.some.injEq, Prod.mk.injEq] at h; exact h.2.symm
      · cases h
    · rename_i e b o len cap hu
      split at h
      · cases hb : Nat.beq (b % 2) 0 with
        | true =>
          rw [hb] at h
          simp only [cond_true] at h
          unfold slcE at h
          simp only at h
          generalize (Nat.beq _ _ && _ && _ && _ && _) = c at h
          cases c with
          | false => simp at h
          | true => simp only [cond_true, Option.some.injEq, Prod.mk.injEq] at h; exact h.2.symm
        | false =>
          rw [hb] at h
          simp only [cond_false] at h
          cases hk : Nat.blt cap KB with
          | false => rw [hk] at h; simp at h
          | true =>
            rw [hk] at h
            simp only [cond_true] at h
            unfold slcO at h
            simp only at h
            split at h
            · generalize (Nat.beq _ _ && _ && _ && _ && _ && _) = c at h
              cases c with
              | false => simp at h
              | true =>
                simp only [cond_true] at h
                split at h
                · simp only [Option.some.injEq, Prod.mk.injEq] at h; exact h.2.symm
                · generalize (Nat.ble _ _ && _ && _) = c at h
                  cases c with
                  | false => simp at h
                  | true => simp only [cond_true, Option.some.injEq, Prod.mk.injEq] at h; exact h.2.symm
            · generalize (Nat.beq _ _ && _ && _ && _ && _) = c at h
              cases c with
              | false => simp at h
              | true => simp only [cond_true, Option.some.injEq, Prod.mk.injEq] at h; exact h.2.symm
      · cases h
    · cases h
  · cases h
theorem fbk_S {S : St} {ρ : Operand → Option Value} {o : Oper} {out : Out} (h : fbk P S ρ o = some out) : ∃ v, out = .val v S ∧ ∀ S2, fbk P S2 ρ o = some (.val v S2) := by
  unfold fbk at h ⊢
  cases hc : (plainAll ρ o.op.operands.toList && !isSelect o.op) with
  | false => rw [hc] at h; simp at h
  | true =>
    rw [hc] at h
    simp only [cond_true] at h
    split at h
    · rename_i v hp
      cases hpl : plain v with
      | false => rw [hpl] at h; simp at h
      | true =>
        rw [hpl] at h
        simp only [cond_true, Option.some.injEq] at h
        subst h
        exact ⟨v, rfl, fun S2 => by simp [hp, hpl]⟩
    · cases h
theorem cvt_S {S S' : St} {src dst : TypeId} {x v : Value} (h : cvt P S src dst x = some (v, S')) : S' = S ∨ S'.next = S.next + 2 := by
  unfold cvt at h
  split at h
  · split at h
    · simp only [Option.some.injEq, Prod.mk.injEq] at h
      right; rw [← h.2]; rfl
    · cases h
  · rename_i e b o n cap hs hd
    split at h
    · cases hn : Nat.beq n 0 with
      | true => rw [hn] at h; simp only [cond_true, Option.some.injEq, Prod.mk.injEq] at h; exact .inl h.2.symm
      | false =>
        rw [hn] at h
        simp only [cond_false] at h
        split at h
        · rename_i c _ _ _
          generalize Nat.beq _ n = q at h
          cases q with
          | false => simp at h
          | true =>
            simp only [cond_true] at h
            split at h
            · simp only [Option.some.injEq, Prod.mk.injEq] at h; exact .inl h.2.symm
            · cases h
        · cases h
    · cases h
  · split at h
    · cases hc : (Nat.beq src dst && Nat.beq (_ % 2) 0) with
      | false => rw [hc] at h; cases h
      | true =>
        rw [hc] at h
        simp only [cond_true] at h
        split at h
        · simp only [Option.some.injEq, Prod.mk.injEq] at h; exact .inl h.2.symm
        · cases h
    · cases h
  · cases h
theorem bltA_S {S S' : St} {b : Builtin} {ts : List TypeId} {args : List Value} {v : Value} (hb : b = .len ∨ b = .cap ∨ b = .min ∨ b = .max) (h : bltA P S b ts args = some (.val v S')) : S' = S := by
  unfold bltA at h
  split at h
  · rcases hb with h | h | h | h <;> cases h
  · rcases hb with h | h | h | h <;> cases h
  · rcases hb with h | h | h | h <;> cases h
  · rcases hb with h | h | h | h <;> cases h
  · rename_i t x
    cases hp : plain x with
    | true => rw [hp] at h; simp at h
    | false =>
      rw [hp] at h
      simp only [cond_false] at h
      split at h
      · simp only [Option.some.injEq, Out.val.injEq] at h; exact h.2.symm
      · split at h
        · simp only [Option.some.injEq, Out.val.injEq] at h; exact h.2.symm
        · cases h
      · cases h
  · rename_i t x
    cases hp : plain x with
    | true => rw [hp] at h; simp at h
    | false =>
      rw [hp] at h
      simp only [cond_false] at h
      split at h
      · generalize Nat.beq _ 0 = q at h
        cases q with
        | false => simp at h
        | true => simp only [cond_true, Option.some.injEq, Out.val.injEq] at h; exact h.2.symm
      · cases h
  · cases h
theorem bltA_call {S : St} {b : Builtin} {ts : List TypeId} {args : List Value} {f : FuncId} {as : List Value} (h : bltA P S b ts args = some (.call f as)) : False := by
  unfold bltA at h
  split at h
  · obtain ⟨_, _, _, h⟩ := outVS_some h; cases h
  · obtain ⟨_, _, _, h⟩ := outVS_some h; cases h
  · obtain ⟨_, _, h⟩ := outS_some h; cases h
  · obtain ⟨_, _, h⟩ := outS_some h; cases h
  · rename_i t x
    cases hp : plain x with
    | true => rw [hp] at h; simp at h
    | false =>
      rw [hp] at h
      simp only [cond_false] at h
      split at h
      · simp at h
      · split at h <;> simp at h
      · cases h
  · rename_i t x
    cases hp : plain x with
    | true => rw [hp] at h; simp at h
    | false =>
      rw [hp] at h
      simp only [cond_false] at h
      split at h
      · generalize Nat.beq _ 0 = q at h
        cases q <;> simp at h
      · cases h
  · cases h
theorem aop_Q {S : St} {ρ : Operand → Option Value} {o : Oper} (hq : isQ o.op = true) {out : Out} (h : aop P S ρ o = some out) : ∃ v S', out = .val v S' ∧ (S' = S ∨ S'.next = S.next + 2) := by
  have hfb : fbk P S ρ o = some out → ∃ v S', out = .val v S' ∧ (S' = S ∨ S'.next = S.next + 2) := fun hf => by
    obtain ⟨v, rfl, _⟩ := fbk_S hf
    exact ⟨v, S, rfl, .inl rfl⟩
  have hV : ∀ {x : Option Value}, outV x S = some out → ∃ v S', out = .val v S' ∧ (S' = S ∨ S'.next = S.next + 2) := fun hx => by
    obtain ⟨v, _, rfl⟩ := outV_some hx
    exact ⟨v, S, rfl, .inl rfl⟩
  obtain ⟨dst, op, type, pos, after, guard⟩ := o
  cases op with
  | move x => exact hV h
  | assign x => exact hV h
  | pick c a b =>
    simp only [aop] at h
    split at h
    · simp only [Option.some.injEq] at h; subst h; exact ⟨_, S, rfl, .inl rfl⟩
    · cases h
  | build t ps =>
    simp only [aop] at h
    split at h
    · exact hV h
    · cases h
  | load t a =>
    simp only [aop] at h
    split at h
    · exact hV h
    · cases h
  | nilCheck x =>
    simp only [aop] at h
    split at h <;> first | (simp only [Option.some.injEq] at h; subst h; exact ⟨_, S, rfl, .inl rfl⟩) | cases h
  | binOp bop t x y yt =>
    simp only [aop] at h
    split at h
    · rename_i a b _ _
      cases hp : (plain a && plain b) with
      | true => rw [hp] at h; exact hfb h
      | false => rw [hp] at h; exact hV h
    · cases h
  | unOp uop t x => exact hfb h
  | convert src d x =>
    simp only [aop] at h
    split at h
    · split at h
      · rename_i v2 S' hc
        simp only [Option.some.injEq] at h
        subst h
        exact ⟨v2, S', rfl, cvt_S hc⟩
      · exact hfb h
    · cases h
  | makeInterface t x =>
    simp only [aop] at h
    split at h
    · split at h
      · cases h
      · cases h
      · simp only [Option.some.injEq] at h; subst h; exact ⟨_, S, rfl, .inl rfl⟩
    · cases h
  | makeFunc fn a c =>
    simp only [aop] at h
    split at h
    · simp only [Option.some.injEq] at h; subst h; exact ⟨_, S, rfl, .inl rfl⟩
    · cases h
  | slice t x lo hi mx =>
    simp only [aop] at h
    split at h
    · rename_i v _ _ _ _ _ _ _
      cases hp : plain v with
      | true => rw [hp] at h; exact hfb h
      | false =>
        rw [hp] at h
        obtain ⟨v2, S', h1, rfl⟩ := outVS_some h
        exact ⟨v2, S', rfl, .inl (slc_S h1)⟩
    · cases h
  | fieldAddr s x f =>
    simp only [aop] at h
    split at h
    · exact hV h
    · cases h
  | field t x f =>
    simp only [aop] at h
    split at h
    · exact hV h
    · cases h
  | indexAddr t x i =>
    simp only [aop] at h
    split at h
    · rename_i _ j _ _
      cases hp : scalar j with
      | true => rw [hp] at h; exact hV h
      | false => rw [hp] at h; simp at h
    · cases h
  | index t x i =>
    simp only [aop] at h
    split at h
    · rename_i v j _ _
      cases hp : (plain v && plain j) with
      | true => rw [hp] at h; exact hfb h
      | false =>
        rw [hp] at h
        simp only [cond_false] at h
        cases hp : scalar j with
        | true => rw [hp] at h; exact hV h
        | false => rw [hp] at h; simp at h
    · cases h
  | lookup t x k ok =>
    simp only [aop] at h
    split at h
    · exact hV h
    · cases h
  | extract t i =>
    simp only [aop] at h
    split at h
    · exact hV h
    · cases h
  | call c =>
    simp only [aop] at h
    split at h
    · rename_i args hargs
      obtain ⟨cal, cargs, cts⟩ := c
      cases cal with
      | value f => simp [isQ] at hq
      | invoke r n => simp [isQ] at hq
      | builtin b =>
        have hb : b = .len ∨ b = .cap ∨ b = .min ∨ b = .max := by cases b <;> simp [isQ] at hq ⊢
        simp only at h
        split at h
        · rename_i out' hbl
          simp only [Option.some.injEq] at h
          subst h
          cases out' with
          | val v S' => exact ⟨v, S', rfl, .inl (bltA_S hb hbl)⟩
          | call f as => exact (bltA_call hbl).elim
        · exact hfb h
    · cases h
  | _ => simp [isQ] at hq
theorem step_Q {call : CallF} {ops : Array Oper} {env : Env} {S S' : St} {o : Oper} {v : Value} (hq : isQ o.op = true) (h : stepOp P call ops env S o = some (v, S')) (hn : S'.next = S.next) : S' = S := by
  unfold stepOp at h
  split at h
  · split at h
    · rename_i v2 S2 ha
      simp only [Option.some.injEq, Prod.mk.injEq] at h
      obtain ⟨rfl, rfl⟩ := h
      obtain ⟨v', S3, h1, h2⟩ := aop_Q hq ha
      simp only [Out.val.injEq] at h1
      obtain ⟨rfl, rfl⟩ := h1
      rcases h2 with h2 | h2
      · exact h2
      · omega
    · rename_i f args ha
      obtain ⟨v', S3, h1, _⟩ := aop_Q hq ha
      cases h1
    · cases h
  · simp only [Option.some.injEq, Prod.mk.injEq] at h
    exact h.2.symm
  · cases h
theorem aop_N {S : St} {ρ : Operand → Option Value} {o : Oper} (hq : isN o.op = true) {out : Out} (h : aop P S ρ o = some out) : ∃ v, out = .val v S ∧ ∀ S2, aop P S2 ρ o = some (.val v S2) := by
  have hfb : fbk P S ρ o = some out → (∀ S2, aop P S2 ρ o = fbk P S2 ρ o) → ∃ v, out = .val v S ∧ ∀ S2, aop P S2 ρ o = some (.val v S2) := fun hf he => by
    obtain ⟨v, rfl, h2⟩ := fbk_S hf
    exact ⟨v, rfl, fun S2 => by rw [he]; exact h2 S2⟩
  have hV : ∀ {x : Option Value}, outV x S = some out → (∀ S2, aop P S2 ρ o = outV x S2) → ∃ v, out = .val v S ∧ ∀ S2, aop P S2 ρ o = some (.val v S2) := fun hx he => by
    obtain ⟨v, rfl, rfl⟩ := outV_some hx
    exact ⟨v, rfl, fun S2 => by rw [he]; rfl⟩
  obtain ⟨dst, op, type, pos, after, guard⟩ := o
  cases op with
  | move x => exact hV h fun _ => rfl
  | assign x => exact hV h fun _ => rfl
  | pick c a b =>
    simp only [aop] at h ⊢
    split at h
    · simp only [Option.some.injEq] at h; subst h
      refine ⟨_, rfl, fun S2 => ?_⟩
      simp [*]
    · cases h
  | build t ps =>
    simp only [aop] at h
    split at h
    · refine hV h fun S2 => ?_
      simp only [aop, *]
    · cases h
  | nilCheck x =>
    simp only [aop] at h ⊢
    split at h <;> first | (simp only [Option.some.injEq] at h; subst h; refine ⟨_, rfl, fun S2 => ?_⟩; simp [*]; done) | cases h
  | binOp bop t x y yt =>
    simp only [aop] at h
    split at h
    · rename_i a b _ _
      cases hp : (plain a && plain b) with
      | true => rw [hp] at h; exact hfb h fun S2 => by simp only [aop, *, cond_true]
      | false => rw [hp] at h; exact hV h fun S2 => by simp only [aop, *, cond_false]
    · cases h
  | unOp uop t x => exact hfb h fun _ => rfl
  | makeInterface t x =>
    simp only [aop] at h ⊢
    split at h
    · split at h
      · cases h
      · cases h
      · simp only [Option.some.injEq] at h; subst h
        refine ⟨_, rfl, fun S2 => ?_⟩
        simp [*]
    · cases h
  | makeFunc fn a c =>
    simp only [aop] at h ⊢
    split at h
    · simp only [Option.some.injEq] at h; subst h
      refine ⟨_, rfl, fun S2 => ?_⟩
      simp [*]
    · cases h
  | fieldAddr s x f =>
    simp only [aop] at h
    split at h
    · refine hV h fun S2 => ?_
      simp only [aop, *]
    · cases h
  | field t x f =>
    simp only [aop] at h
    split at h
    · refine hV h fun S2 => ?_
      simp only [aop, *]
    · cases h
  | indexAddr t x i =>
    simp only [aop] at h
    split at h
    · rename_i _ j _ _
      cases hp : scalar j with
      | true => rw [hp] at h; exact hV h fun S2 => by simp only [aop, *, cond_true]
      | false => rw [hp] at h; simp at h
    · cases h
  | index t x i =>
    simp only [aop] at h
    split at h
    · rename_i v j _ _
      cases hp : (plain v && plain j) with
      | true => rw [hp] at h; exact hfb h fun S2 => by simp only [aop, *, cond_true]
      | false =>
        rw [hp] at h
        simp only [cond_false] at h
        cases hp : scalar j with
        | true => rw [hp] at h; exact hV h fun S2 => by simp only [aop, *, cond_true, cond_false]
        | false => rw [hp] at h; simp at h
    · cases h
  | extract t i =>
    simp only [aop] at h
    split at h
    · refine hV h fun S2 => ?_
      simp only [aop, *]
    · cases h
  | _ => simp [isN] at hq
theorem step_N {call : CallF} {ops : Array Oper} {env : Env} {S S' : St} {o : Oper} {v : Value} (hq : isN o.op = true) (h : stepOp P call ops env S o = some (v, S')) (S2 : St) : stepOp P call ops env S2 o = some (v, S2) := by
  unfold stepOp at h ⊢
  split at h
  · rename_i hw
    split at h
    · rename_i v2 S3 ha
      simp only [Option.some.injEq, Prod.mk.injEq] at h
      obtain ⟨rfl, rfl⟩ := h
      obtain ⟨v', h1, h2⟩ := aop_N hq ha
      simp only [Out.val.injEq] at h1
      obtain ⟨rfl, rfl⟩ := h1
      simp only [hw, h2 S2]
    · rename_i f args ha
      obtain ⟨v', h1, _⟩ := aop_N hq ha
      cases h1
    · cases h
  · rename_i hw
    simp only [Option.some.injEq, Prod.mk.injEq] at h
    simp only [hw, h.1]
  · cases h
end
end Go.Proofs.YtcandpiafgicbaaGreatDoor.Ev
