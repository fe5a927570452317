/- The evaluator's operations, together. -/
import Derived.Test.YtcandpiafgicbaaGreatDoorEvN
namespace Go.Proofs.YtcandpiafgicbaaGreatDoor.Ev
open Go hiding Obj
set_option linter.unusedVariables false
set_option linter.unusedSimpArgs false
set_option linter.unusedSectionVars false
variable [Gl]
section
variable {P : Program}
/-- x == y of things that lead somewhere. -/
noncomputable def eqv (P : Program) (t : TypeId) (x y : Value) : Option Bool :=
  match P.underlying t with
  | some (.pointer e) =>
    match x, y with
    | .pointer none, .pointer (some _) => some false
    | .pointer (some _), .pointer none => some false
    | .pointer (some ⟨b, o, none⟩), .pointer (some ⟨b', o', none⟩) => match P.info? e with
      | some ie => bif Nat.beq ie.size 0 then none else bif Nat.beq b b' then some (Nat.beq o o') else none
      | none => none
    | _, _ => none
  | some (.slice _) =>
    match x, y with
    | .slice none _ _, .slice (some _) _ _ => some false
    | .slice (some _) _ _, .slice none _ _ => some false
    | _, _ => none
  | some (.map _ _) =>
    match x, y with
    | .map none, .map (some _) => some false
    | .map (some _), .map none => some false
    | _, _ => none
  | some (.interface _) =>
    match x, y with
    | .nilIface, .iface _ _ => some false
    | .iface _ _, .nilIface => some false
    | _, _ => none
  | some (.func _ _ _) =>
    match x, y with
    | .nilFunc, .func _ _ _ => some false
    | .func _ _ _, .nilFunc => some false
    | _, _ => none
  | _ => none
theorem eqvD_sim (d : Nat) {r : Ren} {t : TypeId} {x x' y y' : Value} (hx : VR r x x') (hy : VR r y y') {b : Bool} (hb : eqv P t x y = some b) (w : World) : (Op.equalIn (d + 1) t x' y').run P w = .ok b w := by
  unfold eqv at hb
  split at hb
  · rename_i e hu
    split at hb
    · simp only [Option.some.injEq] at hb; subst hb
      cases hx with
      | sc _ _ => cases hy with
        | sc _ h => simp [scalar] at h
        | ptr b o h => simp [Op.equalIn, run_und hu]
    · simp only [Option.some.injEq] at hb; subst hb
      cases hy with
      | sc _ _ => cases hx with
        | sc _ h => simp [scalar] at h
        | ptr b o h => simp [Op.equalIn, run_und hu]
    · rename_i b1 o1 b2 o2
      split at hb
      case h_2 => cases hb
      rename_i ie hi
      cases h0 : Nat.beq ie.size 0 with
      | true => rw [h0] at hb; simp at hb
      | false =>
        rw [h0] at hb
        simp only [cond_false] at hb
        cases hbb : Nat.beq b1 b2 with
        | false => rw [hbb] at hb; simp at hb
        | true =>
          rw [hbb] at hb
          simp only [cond_true, Option.some.injEq] at hb
          obtain rfl := beq0 hbb
          have h0 := nbeq0 h0
          subst hb
          cases hx with
          | sc _ h => simp [scalar] at h
          | ptr _ _ _ => cases hy with
            | sc _ h => simp [scalar] at h
            | ptr _ _ _ =>
              have e1 : ((⟨r.μ b1, o1 + r.δ b1, none⟩ : Addr) == ⟨r.μ b1, o2 + r.δ b1, none⟩) = Nat.beq o1 o2 := by
                by_cases h : o1 = o2
                · subst h; simp
                · have : Nat.beq o1 o2 = false := by
                    cases hq : Nat.beq o1 o2
                    · rfl
                    · exact absurd (beq0 hq) h
                  rw [this]; simp [h]
              simp [Op.equalIn, run_und hu, run_so hi, h0, sameAddr, e1]
    · cases hb
  · rename_i e hu
    split at hb
    · simp only [Option.some.injEq] at hb; subst hb
      cases hx with
      | sc _ _ => cases hy with
        | sc _ h => simp [scalar] at h
        | slE => simp [Op.equalIn, run_und hu]
        | slO => simp [Op.equalIn, run_und hu]
        | slK => simp [Op.equalIn, run_und hu]
    · simp only [Option.some.injEq] at hb; subst hb
      cases hy with
      | sc _ _ => cases hx with
        | sc _ h => simp [scalar] at h
        | slE => simp [Op.equalIn, run_und hu]
        | slO => simp [Op.equalIn, run_und hu]
        | slK => simp [Op.equalIn, run_und hu]
    · cases hb
  · rename_i k e hu
    split at hb
    · simp only [Option.some.injEq] at hb; subst hb
      cases hx with
      | sc _ _ => cases hy with
        | sc _ h => simp [scalar] at h
        | map => simp [Op.equalIn, run_und hu]
    · simp only [Option.some.injEq] at hb; subst hb
      cases hy with
      | sc _ _ => cases hx with
        | sc _ h => simp [scalar] at h
        | map => simp [Op.equalIn, run_und hu]
    · cases hb
  · rename_i ms hu
    split at hb
    · simp only [Option.some.injEq] at hb; subst hb
      cases hx with
      | sc _ _ => cases hy with
        | sc _ h => simp [scalar] at h
        | iface => simp [Op.equalIn, run_und hu]
    · simp only [Option.some.injEq] at hb; subst hb
      cases hy with
      | sc _ _ => cases hx with
        | sc _ h => simp [scalar] at h
        | iface => simp [Op.equalIn, run_und hu]
    · cases hb
  · rename_i a1 a2 a3 hu
    split at hb
    · simp only [Option.some.injEq] at hb; subst hb
      cases hx with
      | sc _ _ => cases hy with
        | sc _ h => simp [scalar] at h
        | func => simp [Op.equalIn, run_und hu]
    · simp only [Option.some.injEq] at hb; subst hb
      cases hy with
      | sc _ _ => cases hx with
        | sc _ h => simp [scalar] at h
        | func => simp [Op.equalIn, run_und hu]
    · cases hb
  · cases hb
theorem eqv_sim {r : Ren} {t : TypeId} {x x' y y' : Value} (hx : VR r x x') (hy : VR r y y') {b : Bool} (hb : eqv P t x y = some b) (w : World) : (Op.equal t x' y').run P w = .ok b w := eqvD_sim 9999 hx hy hb w
/-- Values of which '==' asks nothing ahead. -/
noncomputable def unguarded : Value → Bool
  | .nilIface | .agg _ => false
  | _ => true
noncomputable def eqB (P : Program) (op : BinOp) (t : TypeId) (x y : Value) : Option Value :=
  match op with
  | .eql => bif unguarded x || unguarded y then (match eqv P t x y with | some b => some (.bool b) | none => none) else none
  | .neq => bif unguarded x || unguarded y then (match eqv P t x y with | some b => some (.bool !b) | none => none) else none
  | _ => none
theorem eqv_shape {t : TypeId} {x y : Value} {b : Bool} (h : eqv P t x y = some b) : (∃ p q, x = .pointer p ∧ y = .pointer q) ∨ (∃ p q l m c d, x = .slice p l c ∧ y = .slice q m d) ∨ (∃ p q, x = .map p ∧ y = .map q) ∨
    (x = .nilIface ∧ ∃ t v, y = .iface t v) ∨ (y = .nilIface ∧ ∃ t v, x = .iface t v) ∨ (x = .nilFunc ∧ ∃ f a c, y = .func f a c) ∨ (y = .nilFunc ∧ ∃ f a c, x = .func f a c) := by
  unfold eqv at h
  (repeat' split at h) <;> simp_all
theorem eqB_sim {r : Ren} {op : BinOp} {t : TypeId} {x x' y y' v : Value} (hx : VR r x x') (hy : VR r y y') (X Y : Operand) (hb : eqB P op t x y = some v) (w : World) :
    (do eqGuard op t X Y x' y'; binOp op t x' y' : Sem Value).run P w = .ok v w ∧ plain v = true := by
  have key : ∀ b, eqv P t x y = some b → (op = .eql ∧ v = .bool b ∨ op = .neq ∧ v = .bool !b) → (do eqGuard op t X Y x' y'; binOp op t x' y' : Sem Value).run P w = .ok v w ∧ plain v = true := fun b he hop => by
    have hs := eqv_sim hx hy he w
    have hsh := eqv_shape he
    refine ⟨?_, by rcases hop with ⟨_, rfl⟩ | ⟨_, rfl⟩ <;> rfl⟩
    rcases hsh with ⟨p, q, rfl, rfl⟩ | ⟨p, q, l, m, c, d, rfl, rfl⟩ | ⟨p, q, rfl, rfl⟩ | ⟨rfl, t', v', rfl⟩ | ⟨rfl, t', v', rfl⟩ | ⟨rfl, f, a, c, rfl⟩ | ⟨rfl, f, a, c, rfl⟩ <;>
      cases hx <;> cases hy <;> rcases hop with ⟨rfl, rfl⟩ | ⟨rfl, rfl⟩ <;> simp [eqGuard, binOp, hs]
  unfold eqB at hb
  split at hb
  · cases hg : (unguarded x || unguarded y) with
    | false => rw [hg] at hb; simp at hb
    | true =>
      rw [hg] at hb
      simp only [cond_true] at hb
      split at hb
      · rename_i b he
        simp only [Option.some.injEq] at hb
        exact key b he (.inl ⟨rfl, hb.symm⟩)
      · cases hb
  · cases hg : (unguarded x || unguarded y) with
    | false => rw [hg] at hb; simp at hb
    | true =>
      rw [hg] at hb
      simp only [cond_true] at hb
      split at hb
      · rename_i b he
        simp only [Option.some.injEq] at hb
        exact key b he (.inr ⟨rfl, hb.symm⟩)
      · cases hb
  · cases hb
theorem ld_ptr {S : St} {t : TypeId} {a x : Value} (h : ld P S t a = some x) : ∃ b o, a = .pointer (some ⟨b, o, none⟩) := by
  unfold ld at h
  split at h
  · exact ⟨_, _, rfl⟩
  · cases h
/-- The method of a value in an interface. -/
noncomputable def mth (P : Program) (S : St) (t : TypeId) (v : Value) (name : String) : Option (FuncId × Value) :=
  match P.info? t with
  | some i =>
    match i.methods.find? (·.name == name) with
    | some m =>
      match m.func, m.path.toList with
      | some (f, true), [] => match P.underlying t with | some (.pointer _) => some (f, v) | _ => none
      | some (f, false), [] => match P.underlying t with | some (.struct _) => some (f, v) | _ => none
      | some (f, true), [s] =>
        bif s.deref then
          match P.underlying s.struct with
          | some (.struct fs) => match fs[s.index]? with
            | some fl => match fla P s.struct v s.index, P.underlying fl.type with
              | some a, some (.pointer _) => match ld P S fl.type a with
                | some x => some (f, x)
                | none => none
              | _, _ => none
            | none => none
          | _ => none
        else none
      | _, _ => none
    | none => none
  | none => none
theorem mth_sim {r : Ren} {S : St} {w : World} (hr : Rel r S w) {t : TypeId} {v v' x : Value} (hv : VR r v v') {name : String} {f : FuncId} (hb : mth P S t v name = some (f, x)) (k : Nat) :
    ∃ x', (method (k + 1) t v' name).run P w = .ok (f, x') w ∧ VR r x x' := by
  unfold mth at hb
  split at hb
  case h_2 => cases hb
  rename_i i hi
  split at hb
  case h_2 => cases hb
  rename_i m hm
  split at hb
  · rename_i f' hf hp
    split at hb
    · rename_i e hu
      simp only [Option.some.injEq, Prod.mk.injEq] at hb
      obtain ⟨rfl, rfl⟩ := hb
      exact ⟨v', by simp [method, run_ti hi, hm, hp, follow, hf, receiverAt, run_und hu, Place.get], hv⟩
    · cases hb
  · rename_i f' hf hp
    split at hb
    · rename_i e hu
      simp only [Option.some.injEq, Prod.mk.injEq] at hb
      obtain ⟨rfl, rfl⟩ := hb
      exact ⟨v', by simp [method, run_ti hi, hm, hp, follow, hf, receiverAt, run_und hu, Place.get], hv⟩
    · cases hb
  · rename_i f' s hf hp
    cases hd : s.deref with
    | false => rw [hd] at hb; simp at hb
    | true =>
      rw [hd] at hb
      simp only [cond_true] at hb
      split at hb
      case h_2 => cases hb
      rename_i fs hu
      split at hb
      case h_2 => cases hb
      rename_i fl hfl
      split at hb
      case h_2 => cases hb
      rename_i a e ha hu2
      split at hb
      case h_2 => cases hb
      rename_i x2 hld
      simp only [Option.some.injEq, Prod.mk.injEq] at hb
      obtain ⟨rfl, rfl⟩ := hb
      obtain ⟨a', h1, h2⟩ := fla_sim (P := P) hv ha w
      obtain ⟨x', h3, h4⟩ := ld_sim (P := P) hr h2 hld
      refine ⟨x', ?_, h4⟩
      have hpt : ∃ A, v' = .pointer (some A) := by
        unfold fla at ha
        split at ha
        · cases hv with
          | sc _ h => simp [scalar] at h
          | ptr => exact ⟨_, rfl⟩
        · cases ha
      obtain ⟨A, rfl⟩ := hpt
      have hpt2 : ∃ A', a' = .pointer (some A') := by
        obtain ⟨b, o, rfl⟩ := ld_ptr hld
        cases h2 with
        | ptr => exact ⟨_, rfl⟩
        | sc v h => simp [scalar] at h
      obtain ⟨A', rfl⟩ := hpt2
      simp [Instr.fieldAt, run_und hu, hfl, Instr.sureAddr] at h1
      simp [Instr.loadAt, Instr.sureAddr] at h3
      have h1' : (fieldPlace A fl).run P w = .ok A' w := by
        cases hfp : (fieldPlace A fl).run P w with
        | ok q w2 => rw [hfp] at h1; simp at h1; obtain ⟨rfl, rfl⟩ := h1; rfl
        | halt q w2 => rw [hfp] at h1; simp at h1
      simp [method, run_ti hi, hm, hp, follow, run_und hu, hfl, hd, Place.get, asAddr, h1', hf, receiverAt, run_und hu2, h3]
  · cases hb
end
end Go.Proofs.YtcandpiafgicbaaGreatDoor.Ev
