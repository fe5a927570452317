/- The evaluator's operations: slices of slices, append, copy. -/
import Derived.Test.YtcandpiafgicbaaGreatDoorEvC
import Derived.Deep.AppendSrc
namespace Go.Proofs.YtcandpiafgicbaaGreatDoor.Ev
open Go hiding Obj
set_option linter.unusedVariables false
set_option linter.unusedSimpArgs false
set_option linter.unusedSectionVars false
variable [Gl]
section
variable {P : Program}
/-- A bound of a slice expression. -/
noncomputable def numO : Option Value → Option (Option Nat)
  | none => some none
  | some (.int _ (.ofNat n)) => some (some n)
  | _ => none
theorem numO_none {x : Option Value} (h : numO x = some none) : x = none := by
  cases x with
  | none => rfl
  | some v =>
    exfalso
    unfold numO at h
    split at h <;> simp at h
    rename_i e; cases e
theorem numO_some {x : Option Value} {n : Nat} (h : numO x = some (some n)) : ∃ k, x = some (.int k (n : Int)) := by
  unfold numO at h
  split at h <;> simp at h
  subst h
  exact ⟨_, rfl⟩
theorem bound_run {k : IntKind} {n y : Nat} (h : n ≤ y) (c : BoundsCode) (w : World) : (Instr.sliceBound (.int k (n : Int)) y c).run P w = .ok n w := by
  simp [Instr.sliceBound, asIntOf, h]
theorem bounds_run {b : Bool} {len cap : Nat} {lo hi mx : Option Value} {l h m : Option Nat} (hl : numO lo = some l) (hh : numO hi = some h) (hm : numO mx = some m) (c1 : ∀ x, m = some x → x ≤ cap ∧ h.isSome = true) (c2 : ∀ x, h = some x → x ≤ m.getD cap)
    (c3 : ∀ x, l = some x → x ≤ h.getD len) (w : World) : (Instr.sliceBounds b len cap lo hi mx).run P w = .ok (l.getD 0, h.getD len, m.getD cap) w := by
  have hL : ∀ c (y : Nat), (∀ x, l = some x → x ≤ y) → (match lo with | some v => Instr.sliceBound v y c | none => pure 0 : Sem Nat).run P w = .ok (l.getD 0) w := fun c y hy => by
    cases l with
    | none => rw [numO_none hl]; simp only [Sem.run_pure, Option.getD_none]
    | some x => obtain ⟨k, rfl⟩ := numO_some hl; simp only [bound_run (hy x rfl), Option.getD_some]
  cases m with
  | none =>
    obtain rfl := numO_none hm
    cases h with
    | none =>
      obtain rfl := numO_none hh
      have := hL .sliceB len (by simpa using c3)
      cases lo <;> simp only [Instr.sliceBounds, Sem.run_bind, Sem.run_pure, Result.andThen_ok, Option.getD_none, Option.isSome_none, Bool.false_eq_true, if_false] at this ⊢ <;> first | (simp only [this, Result.andThen_ok]; done) | (simp only [numO, Option.some.injEq] at hl; subst hl; rfl)
    | some x =>
      obtain ⟨k, rfl⟩ := numO_some hh
      have hb := fun c => bound_run (P := P) (k := k) (c2 x rfl) c w
      have := hL .sliceB x (by simpa using c3)
      simp only [Option.getD_none] at hb
      cases lo <;> simp only [Instr.sliceBounds, Sem.run_bind, Sem.run_pure, Result.andThen_ok, hb, Option.getD_none, Option.getD_some, Option.isSome_none, Bool.false_eq_true, if_false] at this ⊢ <;> first | (simp only [this, Result.andThen_ok]; done) | (simp only [numO, Option.some.injEq] at hl; subst hl; rfl)
  | some y =>
    obtain ⟨k, rfl⟩ := numO_some hm
    obtain ⟨c11, c12⟩ := c1 y rfl
    have hb1 := fun c => bound_run (P := P) (k := k) c11 c w
    cases h with
    | none => simp at c12
    | some x =>
      obtain ⟨k', rfl⟩ := numO_some hh
      have hb := fun c => bound_run (P := P) (k := k') (c2 x rfl) c w
      have := hL .slice3C x (by simpa using c3)
      simp only [Option.getD_some] at hb
      cases lo <;> simp only [Instr.sliceBounds, Sem.run_bind, Sem.run_pure, Result.andThen_ok, hb, hb1, Option.getD_some, Option.isSome_some, if_true] at this ⊢ <;> first | (simp only [this, Result.andThen_ok]; done) | (simp only [numO, Option.some.injEq] at hl; subst hl; rfl)
noncomputable def slcE (S : St) (b o sz len cap : Nat) (l h m : Option Nat) : Option (Value × St) :=
  let l' := l.getD 0
  let h' := h.getD len
  let m' := m.getD cap
  bif Nat.beq (b % 2) 0 && Nat.ble l' h' && Nat.ble h' m' && Nat.ble m' cap && (m.isNone || h.isSome) then
    some (.slice (some ⟨b, bif Nat.beq m' l' then o else o + l' * sz, none⟩) (h' - l') (m' - l'), S) else none
noncomputable def slcO (S : St) (b o sz len e : Nat) (l h m : Option Nat) : Option (Value × St) :=
  let l' := l.getD 0
  let h' := h.getD len
  match S.get b with
  | some (.cells c _ sz') =>
    bif Nat.beq (b % 2) 1 && Nat.beq sz' sz && !(Nat.beq sz 0) && Nat.ble l' h' && Nat.ble ((e + h') * sz) c.length && Nat.blt (e + l') KB then
      match m with
      | none => some (.slice (some ⟨b, o + l' * sz, none⟩) (h' - l') (e + l'), S)
      | some m' => bif Nat.ble h' m' && Nat.ble ((e + m') * sz) c.length && h.isSome then some (.slice (some ⟨b, bif Nat.beq m' l' then o else o + l' * sz, none⟩) (h' - l') (KB + (m' - l')), S) else none
    else none
  | _ => bif Nat.beq (b % 2) 1 && Nat.beq l' 0 && Nat.beq h' 0 && m.isNone && Nat.beq len 0 then some (.slice (some ⟨b, o, none⟩) 0 e, S) else none
/-- x[l:h:m] -/
noncomputable def slc (P : Program) (S : St) (t : TypeId) (x : Value) (lo hi mx : Option Value) : Option (Value × St) :=
  match numO lo, numO hi, numO mx with
  | some l, some h, some m =>
    match P.underlying t, x with
    | some (.array n e), .pointer (some ⟨b, o, none⟩) => match P.info? e with
      | some ie => slcE S b o ie.size n n l h m
      | none => none
    | some (.slice e), .slice (some ⟨b, o, none⟩) len cap => match P.info? e with
      | some ie => bif Nat.beq (b % 2) 0 then slcE S b o ie.size len cap l h m else bif Nat.blt cap KB then slcO S b o ie.size len cap l h m else none
      | none => none
    | _, _ => none
  | _, _, _ => none
theorem beq0 {a b : Nat} (h : Nat.beq a b = true) : a = b := Nat.eq_of_beq_eq_true h
theorem ble0 {a b : Nat} (h : Nat.ble a b = true) : a ≤ b := Nat.le_of_ble_eq_true h
theorem nbeq0 {a b : Nat} (h : Nat.beq a b = false) : a ≠ b := Nat.ne_of_beq_eq_false h
theorem slcE_val {r : Ren} {S S' : St} {b o sz len cap : Nat} {l h m : Option Nat} {x : Value} (hs : slcE S b o sz len cap l h m = some (x, S')) (hb : b < r.n) :
    S' = S ∧ l.getD 0 ≤ h.getD len ∧ h.getD len ≤ m.getD cap ∧ m.getD cap ≤ cap ∧ (∀ x, m = some x → h.isSome = true) ∧
      VR r x (.slice (some (if m.getD cap = l.getD 0 then ⟨r.μ b, o + r.δ b, none⟩ else (⟨r.μ b, o + r.δ b, none⟩ : Addr).add (l.getD 0 * sz))) (h.getD len - l.getD 0) (m.getD cap - l.getD 0)) := by
  unfold slcE at hs
  simp only at hs
  cases hc : (Nat.beq (b % 2) 0 && Nat.ble (l.getD 0) (h.getD len) && Nat.ble (h.getD len) (m.getD cap) && Nat.ble (m.getD cap) cap && (m.isNone || h.isSome)) with
  | false => rw [hc] at hs; simp at hs
  | true =>
    rw [hc] at hs
    simp only [cond_true, Option.some.injEq, Prod.mk.injEq] at hs
    obtain ⟨rfl, rfl⟩ := hs
    simp only [Bool.and_eq_true] at hc
    obtain ⟨⟨⟨⟨c0, c1⟩, c2⟩, c3⟩, c4⟩ := hc
    refine ⟨rfl, ble0 c1, ble0 c2, ble0 c3, fun x hx => by subst hx; simpa using c4, ?_⟩
    have c0 := beq0 c0
    cases hm : Nat.beq (m.getD cap) (l.getD 0) with
    | true =>
      rw [if_pos (beq0 hm)]
      exact .slE b o _ _ hb c0
    | false =>
      rw [if_neg (nbeq0 hm), add_eq]
      simp only [cond_false]
      rw [show o + r.δ b + l.getD 0 * sz = o + l.getD 0 * sz + r.δ b by omega]
      exact .slE b _ _ _ hb c0
theorem slc_sim {r : Ren} {S S' : St} {w : World} (hr : Rel r S w) {t : TypeId} {v v' x : Value} (hv : VR r v v') {lo hi mx : Option Value} (hs : slc P S t v lo hi mx = some (x, S')) :
    S' = S ∧ ∃ x', (Instr.sliceAt t v' lo hi mx).run P w = .ok x' w ∧ VR r x x' := by
  unfold slc at hs
  split at hs
  · rename_i l h m hl hh hm
    split at hs
    · rename_i n e b o hu
      cases hf : P.info? e with
      | none => rw [hf] at hs; simp at hs
      | some ie =>
        rw [hf] at hs
        simp only at hs
        cases hv with
        | sc v hsc => simp [scalar] at hsc
        | ptr _ _ hn =>
          obtain ⟨rfl, g1, g2, g3, g4, g5⟩ := slcE_val hs hn
          have hbr := bounds_run (P := P) (b := false) (len := n) (cap := n) hl hh hm (fun x hx => ⟨by subst hx; simpa using g3, g4 x hx⟩) (fun x hx => by subst hx; simpa using g2) (fun x hx => by subst hx; simpa using g1) w
          refine ⟨rfl, _, ?_, g5⟩
          simp [Instr.sliceAt, run_und hu, Instr.sureAddr, hbr, run_so hf]
    · rename_i e b o len cap hu
      cases hf : P.info? e with
      | none => rw [hf] at hs; simp at hs
      | some ie =>
        rw [hf] at hs
        simp only at hs
        have fin : ∀ {A : Addr} {cap' : Nat}, (∀ x, m = some x → x ≤ cap' ∧ h.isSome = true) → (∀ x, h = some x → x ≤ m.getD cap') → (∀ x, l = some x → x ≤ h.getD len) →
            (Instr.sliceAt t (.slice (some A) len cap') lo hi mx).run P w =
              .ok (.slice (some (if m.getD cap' = l.getD 0 then A else A.add (l.getD 0 * ie.size))) (h.getD len - l.getD 0) (m.getD cap' - l.getD 0)) w := fun {A cap'} a1 a2 a3 => by
          have hbr := bounds_run (P := P) (b := true) (len := len) (cap := cap') hl hh hm a1 a2 a3 w
          simp only [Instr.sliceAt, Sem.run_bind, run_und hu, Result.andThen_ok, Instr.slice, hbr, run_so hf]
          split <;> simp
        cases hv with
        | sc v hsc => simp [scalar] at hsc
        | slE _ _ _ _ hn he =>
          rw [he] at hs
          simp only [Nat.beq_refl, cond_true] at hs
          obtain ⟨rfl, g1, g2, g3, g4, g5⟩ := slcE_val hs hn
          exact ⟨rfl, _, fin (fun x hx => ⟨by subst hx; simpa using g3, g4 x hx⟩) (fun x hx => by subst hx; simpa using g2) (fun x hx => by subst hx; simpa using g1), g5⟩
        | slK _ _ _ k _ _ hn ho _ =>
          rw [ho] at hs
          simp only [show Nat.beq 1 0 = false from rfl, cond_false] at hs
          have : Nat.blt (KB + k) KB = false := by
            cases hq : Nat.blt (KB + k) KB
            · rfl
            · have : KB + k < KB := by simpa [Nat.blt_eq] using hq
              omega
          rw [this] at hs
          simp at hs
        | slO _ _ _ _ M D hn ho hKB ha =>
          rw [ho] at hs
          simp only [show Nat.beq 1 0 = false from rfl, cond_false] at hs
          have : Nat.blt cap KB = true := by simpa [Nat.blt_eq] using hKB
          rw [this] at hs
          simp only [cond_true] at hs
          unfold slcO at hs
          simp only at hs
          split at hs
          · rename_i c ee sz' hg
            cases hc : (Nat.beq (b % 2) 1 && Nat.beq sz' ie.size && !(Nat.beq ie.size 0) && Nat.ble (l.getD 0) (h.getD len) && Nat.ble ((cap + h.getD len) * ie.size) c.length && Nat.blt (cap + l.getD 0) KB) with
            | false => rw [hc] at hs; simp at hs
            | true =>
              rw [hc] at hs
              simp only [cond_true] at hs
              simp only [Bool.and_eq_true, Bool.not_eq_true'] at hc
              obtain ⟨⟨⟨⟨⟨_, c1⟩, c2⟩, c4⟩, c5⟩, c6⟩ := hc
              have c1 := beq0 c1
              have c2 := nbeq0 c2
              have c4 := ble0 c4
              have c5 := ble0 c5
              have c6 : cap + l.getD 0 < KB := by simpa [Nat.blt_eq] using c6
              have hgr := (hr.objs b _ hg).2.2.2.1 ho
              have hpos : 0 < ie.size := Nat.pos_of_ne_zero c2
              have hk : ∀ q, (cap + q) * ie.size ≤ c.length → cap + q ≤ r.κ b := fun q hq => by
                have : (cap + q) * ie.size ≤ r.κ b * ie.size := Nat.le_trans hq (by rw [← c1]; exact hgr.1)
                exact Nat.le_of_mul_le_mul_right this hpos
              have hkh := hk _ c5
              cases m with
              | some m' =>
                simp only at hs
                cases hc2 : (Nat.ble (h.getD len) m' && Nat.ble ((cap + m') * ie.size) c.length && h.isSome) with
                | false => rw [hc2] at hs; simp at hs
                | true =>
                  rw [hc2] at hs
                  simp only [cond_true, Option.some.injEq, Prod.mk.injEq] at hs
                  obtain ⟨rfl, rfl⟩ := hs
                  simp only [Bool.and_eq_true] at hc2
                  obtain ⟨⟨d1, d2⟩, d3⟩ := hc2
                  have d1 := ble0 d1
                  have hkm := hk _ (ble0 d2)
                  have hrun := fin (A := ⟨M, D, none⟩) (cap' := r.κ b - cap) (fun x hx => by injection hx with hx; subst hx; exact ⟨by omega, d3⟩) (fun x hx => by subst hx; simpa using d1) (fun x hx => by subst hx; simpa using c4)
                  refine ⟨rfl, _, hrun, ?_⟩
                  simp only [Option.getD_some]
                  cases hml : Nat.beq m' (l.getD 0) with
                  | true =>
                    have hml := beq0 hml
                    rw [if_pos hml]
                    simp only [cond_true]
                    refine .slK b o _ _ M D hn ho ?_
                    rcases ha with ha | ha
                    · exact .inl ha
                    · exact .inr ⟨by omega, by omega⟩
                  | false =>
                    have hml := nbeq0 hml
                    rw [if_neg hml, add_eq]
                    simp only [cond_false]
                    refine .slK b _ _ _ M _ hn ho ?_
                    rcases ha with ⟨a1, a2⟩ | ha
                    · exact .inl ⟨a1, by omega⟩
                    · omega
              | none =>
                simp only [Option.some.injEq, Prod.mk.injEq] at hs
                obtain ⟨rfl, rfl⟩ := hs
                have hrun := fin (A := ⟨M, D, none⟩) (cap' := r.κ b - cap) (fun x hx => by cases hx) (fun x hx => by subst hx; simp only [Option.getD_some, Option.getD_none] at hkh ⊢; omega) (fun x hx => by subst hx; simpa using c4)
                simp only [Option.getD_none] at hrun
                refine ⟨rfl, _, hrun, ?_⟩
                rw [show r.κ b - cap - l.getD 0 = r.κ b - (cap + l.getD 0) by omega]
                by_cases hml : r.κ b - cap = l.getD 0
                · rw [if_pos hml]
                  exact .slO b _ _ _ M D hn ho c6 (.inr ⟨by omega, by omega⟩)
                · rw [if_neg hml, add_eq]
                  refine .slO b _ _ _ M _ hn ho c6 ?_
                  rcases ha with ⟨a1, a2⟩ | ha
                  · exact .inl ⟨a1, by omega⟩
                  · exact .inr ⟨by omega, by omega⟩
          · cases hc : (Nat.beq (b % 2) 1 && Nat.beq (l.getD 0) 0 && Nat.beq (h.getD len) 0 && m.isNone && Nat.beq len 0) with
            | false => rw [hc] at hs; simp at hs
            | true =>
              rw [hc] at hs
              simp only [cond_true, Option.some.injEq, Prod.mk.injEq] at hs
              obtain ⟨rfl, rfl⟩ := hs
              simp only [Bool.and_eq_true] at hc
              obtain ⟨⟨⟨⟨_, c1⟩, c2⟩, c3⟩, c4⟩ := hc
              have c1 := beq0 c1
              have c2 := beq0 c2
              obtain rfl := beq0 c4
              obtain rfl : m = none := by cases m <;> simp at c3 ⊢
              have hrun := fin (A := ⟨M, D, none⟩) (cap' := r.κ b - cap) (fun x hx => by cases hx) (fun x hx => by subst hx; simp only [Option.getD_some] at c2; omega) (fun x hx => by subst hx; simp only [Option.getD_some] at c1; omega)
              rw [c1, c2] at hrun
              simp only [Option.getD_none, Nat.zero_mul, Nat.sub_zero, add_eq, Nat.add_zero, ite_self] at hrun
              exact ⟨rfl, _, hrun, .slO b o 0 cap M D hn ho hKB ha⟩
    · cases hs
  · cases hs
end
end Go.Proofs.YtcandpiafgicbaaGreatDoor.Ev
