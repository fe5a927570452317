/- The evaluator's fast shape: regions. -/
import Derived.Test.YtcandpiafgicbaaGreatDoorEv1
namespace Go.Proofs.YtcandpiafgicbaaGreatDoor.Ev
open Go hiding Obj
set_option linter.unusedVariables false
set_option linter.unusedSimpArgs false
set_option linter.unusedSectionVars false
variable [Gl]
noncomputable def obp {α β γ : Type} (x : Option (α × β)) (f : α → β → Option γ) : Option γ := @Option.rec (α × β) (fun _ => Option γ) none (fun p => @Prod.rec α β (fun _ => Option γ) f p) x
theorem obp_some {α β γ : Type} {x : Option (α × β)} {f : α → β → Option γ} {c : γ} (h : obp x f = some c) : ∃ a b, x = some (a, b) ∧ f a b = some c := by
  cases x with
  | none => cases h
  | some p => obtain ⟨a, b⟩ := p; exact ⟨a, b, rfl, h⟩
noncomputable def beqB (b c : Bool) : Bool := ifB b c (ifB c false true)
theorem beqB_eq (b c : Bool) : beqB b c = (b == c) := by cases b <;> cases c <;> rfl
noncomputable def gdF (ops : Array Oper) (g : Nat × Bool) : Option (Tmp × Bool) := match (nthF g.1 ops.toList).bind (·.dst) with | some d => some (d, g.2) | none => none
noncomputable def stepOpF (P : Program) (call : CallF) (ops : Array Oper) (e : Env) (S : St) (o : Oper) : RS :=
  @Option.rec (Nat × Bool) (fun _ => Array Oper → SF) (fun _ => stepF)
    (fun g ops P call e S o => ob (gdF ops g) fun q => ob (e.at q.1) fun v => @Option.rec Bool (fun _ => RS) (some (undef, S)) (fun b => ifB (beqB b q.2) (stepF P call e S o) (some (undef, S))) (boolOf v)) o.guard ops P call e S o
/-- One call does at least what the other does. -/
abbrev CLe (c d : CallF) : Prop := ∀ f args S r, c f args S = some r → d f args S = some r
section
variable {P : Program}
theorem slowF_mono {c d : CallF} (h : CLe c d) {e : Env} {S : St} {o : Oper} {r : Value × St} (hs : slowF P c e S o = some r) : slowF P d e S o = some r := by
  unfold slowF at hs ⊢
  split at hs
  · exact hs
  · exact h _ _ _ _ hs
  · cases hs
theorem stepOpF_some {c d : CallF} (h : CLe c d) {ops : Array Oper} {e : Env} {S : St} {o : Oper} {r : Value × St} (hs : stepOpF P c ops e S o = some r) : stepOp P d ops e S o = some r := by
  unfold stepOpF at hs
  cases hg : o.guard with
  | none =>
    rw [hg] at hs
    have hs := slowF_mono h (stepF_slow (show stepF P c e S o = some r from hs))
    unfold stepOp want
    rw [hg]
    exact hs
  | some g =>
    rw [hg] at hs
    have hs : ob (gdF ops g) (fun q => ob (e.at q.1) fun v => @Option.rec Bool (fun _ => RS) (some (undef, S)) (fun b => ifB (beqB b q.2) (stepF P c e S o) (some (undef, S))) (boolOf v)) = some r := hs
    obtain ⟨q, h1, hs⟩ := ob_some hs
    obtain ⟨v, h2, h9⟩ := ob_some hs
    clear hs
    obtain ⟨j, w⟩ := g
    unfold gdF at h1
    rw [nthF_eq, Array.getElem?_toList] at h1
    unfold stepOp want
    rw [hg]
    simp only at h1 ⊢
    split at h1
    · rename_i t ht
      injection h1 with h1
      subst h1
      rw [ht]
      simp only [h2]
      have h9 : @Option.rec Bool (fun _ => RS) (some (undef, S)) (fun b => ifB (beqB b w) (stepF P c e S o) (some (undef, S))) (boolOf v) = some r := h9
      cases hb : boolOf v with
      | none =>
        rw [hb] at h9
        cases v with
        | bool b => cases hb
        | _ => exact h9
      | some b =>
        obtain rfl := boolOf_some hb
        rw [hb] at h9
        have h9 : ifB (beqB b w) (stepF P c e S o) (some (undef, S)) = some r := h9
        rw [beqB_eq] at h9
        cases hb : (b == w) with
        | true =>
          rw [hb] at h9
          simp only [hb]
          exact slowF_mono h (stepF_slow (show stepF P c e S o = some r from h9))
        | false =>
          rw [hb] at h9
          simp only [hb]
          exact h9
    · cases h1
noncomputable def evOpsF (P : Program) (call : CallF) (ops : Array Oper) (l : List Oper) (e : Env) (S : St) : Option (Env × St) :=
  @List.rec Oper (fun _ => Env → St → Option (Env × St)) (fun e S => some (e, S)) (fun o _ ih e S => obp (stepOpF P call ops e S o) fun v S' => ih (e.upF o.dst v) S') l e S
theorem evOpsF_some {c d : CallF} (h : CLe c d) {ops : Array Oper} : ∀ {l : List Oper} {e : Env} {S : St} {r : Env × St}, evOpsF P c ops l e S = some r → evOps P d ops l e S = some r
  | [], e, S, r, hs => hs
  | o :: l, e, S, r, hs => by
    have hs : obp (stepOpF P c ops e S o) (fun v S' => evOpsF P c ops l (e.upF o.dst v) S') = some r := hs
    obtain ⟨v, S', h1, h2⟩ := obp_some hs
    rw [Env.upF_eq] at h2
    simp only [evOps, stepOpF_some h h1]
    exact evOpsF_some h h2
structure Plan where
  ord : List Nat
  needs : List (List Nat)
noncomputable def opAt (ops : Array Oper) (i : Nat) : Option Oper := nthF i ops.toList
theorem opAt_eq (ops : Array Oper) (i : Nat) : opAt ops i = ops[i]? := by rw [opAt, nthF_eq, Array.getElem?_toList]
noncomputable def runTF (P : Program) (call : CallF) (ops : Array Oper) (l : List Nat) (k : Nat) (e : Env) (S : St) : Option (List TE × Env × St) :=
  @List.rec Nat (fun _ => Nat → Env → St → Option (List TE × Env × St)) (fun _ e S => some ([], e, S))
    (fun i _ ih k e S => ob (opAt ops i) fun o => obp (stepOpF P call ops e S o) fun v S' =>
      ifB (ifB (isQ o.op) (Nat.beq S'.next S.next) true) (obp (ih (ifB (isQ o.op) k (Nat.add k 1)) (e.upF o.dst v) S') fun T q => some (⟨i, e, S, v, S', k⟩ :: T, q)) none) l k e S
theorem runTF_some {c d : CallF} (h : CLe c d) {ops : Array Oper} : ∀ {l : List Nat} {k : Nat} {e : Env} {S : St} {r : List TE × Env × St}, runTF P c ops l k e S = some r → runT P d ops l k e S = some r
  | [], k, e, S, r, hs => hs
  | i :: l, k, e, S, r, hs => by
    have hs : ob (opAt ops i) (fun o => obp (stepOpF P c ops e S o) fun v S' =>
      ifB (ifB (isQ o.op) (Nat.beq S'.next S.next) true) (obp (runTF P c ops l (ifB (isQ o.op) k (Nat.add k 1)) (e.upF o.dst v) S') fun T q => some (⟨i, e, S, v, S', k⟩ :: T, q)) none) = some r := hs
    obtain ⟨o, h1, hs⟩ := ob_some hs
    obtain ⟨v, S', h2, hs⟩ := obp_some hs
    obtain ⟨h3, hs⟩ := ifB_some hs
    obtain ⟨T, q, h4, h5⟩ := obp_some hs
    have h4 := runTF_some h h4
    rw [Env.upF_eq] at h4
    rw [opAt_eq] at h1
    unfold runT
    simp only [h1, stepOpF_some h h2]
    rw [ifB_eq] at h3 h4
    cases hq : isQ o.op with
    | true =>
      rw [hq] at h3 h4
      simp only [cond_true] at h3 h4
      simp only [h3, Bool.not_true, Bool.and_false, cond_false, cond_true, h4]
      exact h5
    | false =>
      rw [hq] at h3 h4
      simp only [cond_false] at h4
      have h4' : runT P d ops l (k + 1) (e.up o.dst v) S' = some (T, q) := h4
      simp only [Bool.false_and, cond_false, h4']
      exact h5
noncomputable def stagesF (ops : Array Oper) (S0 : St) (T : List TE) : List St := S0 :: @List.rec TE (fun _ => List St) [] (fun t _ ih => ifB (isSeq ops t.i) (t.S' :: ih) ih) T
theorem stagesF_eq (ops : Array Oper) (S0 : St) (T : List TE) : stagesF ops S0 T = stages ops S0 T := by
  unfold stagesF stages
  congr 1
  induction T with
  | nil => rfl
  | cons t T ih =>
    show ifB (isSeq ops t.i) (t.S' :: _) _ = _
    rw [ih, ifB_eq]
    cases hs : isSeq ops t.i <;> simp [hs]
noncomputable def chkp (P : Program) (call : CallF) (ops : Array Oper) (stg : List St) (t : TE) (p : Nat) : Option Unit :=
  ob (nthF p stg) fun Sp => ob (opAt ops t.i) fun o => obp (stepOpF P call ops t.env Sp o) fun v S' => ifB (veq v t.v) (ifB (Nat.beq S'.next Sp.next) (some ()) none) none
noncomputable def chk1 (P : Program) (call : CallF) (ops : Array Oper) (stg : List St) (t : TE) (ps : List Nat) : Option Unit :=
  @List.rec Nat (fun _ => Option Unit) (some ()) (fun p _ ih => ob (chkp P call ops stg t p) fun _ => ih) ps
noncomputable def chkF (P : Program) (call : CallF) (ops : Array Oper) (stg : List St) (T : List TE) (ns : List (List Nat)) : Option Unit :=
  @List.rec TE (fun _ => List (List Nat) → Option Unit) (fun _ => some ()) (fun t _ ih ns => @List.rec (List Nat) (fun _ => Option Unit) none (fun ps rest _ => ob (chk1 P call ops stg t ps) fun _ => ih rest) ns) T ns
/-- What must be looked at again. -/
def needsR (ops : Array Oper) (b sq : List Nat) (n1 : Nat) : List Nat → Nat → List (List Nat)
  | [], _ => []
  | i :: is, k =>
    (match ops[i]? with
    | some o => bif isQ o.op && !isN o.op then (List.range n1).filter (fun p => !(Nat.beq p k) && mayBe b sq i p) else []
    | none => []) :: needsR ops b sq n1 is (match ops[i]? with | some o => bif isQ o.op then k else k + 1 | none => k)
theorem chk1_mem {c : CallF} {ops : Array Oper} {stg : List St} {t : TE} : ∀ {ps : List Nat}, chk1 P c ops stg t ps = some () → ∀ p ∈ ps, chkp P c ops stg t p = some ()
  | [], _, p, hp => by cases hp
  | q :: ps, h, p, hp => by
    have h : ob (chkp P c ops stg t q) (fun _ => chk1 P c ops stg t ps) = some () := h
    obtain ⟨_, h1, h2⟩ := ob_some h
    rcases List.mem_cons.1 hp with rfl | hp
    · exact h1
    · exact chk1_mem h2 p hp
theorem chk_ok {c d : CallF} (hcd : CLe c d) {ops : Array Oper} {b sq : List Nat} {stg : List St} : ∀ {l : List Nat} {k : Nat} {e : Env} {S : St} {T : List TE} {q : Env × St}, runT P d ops l k e S = some (T, q) →
    chkF P c ops stg T (needsR ops b sq stg.length l k) = some () → ∀ t ∈ T, recheck P d ops b sq stg t = true
  | [], k, e, S, T, q, h, hc, t, ht => by
    simp only [runT, Option.some.injEq, Prod.mk.injEq] at h
    obtain ⟨rfl, _⟩ := h
    cases ht
  | i :: l, k, e, S, T, q, h, hc, t, ht => by
    unfold runT at h
    split at h
    case h_2 => cases h
    rename_i o ho
    split at h
    case h_2 => cases h
    rename_i v S' hst
    cases hb : (isQ o.op && !(Nat.beq S'.next S.next)) with
    | true => rw [hb] at h; cases h
    | false =>
      rw [hb] at h
      simp only [cond_false] at h
      split at h
      case h_2 => cases h
      rename_i T' e' s' hT
      simp only [Option.some.injEq, Prod.mk.injEq] at h
      obtain ⟨rfl, _⟩ := h
      unfold needsR at hc
      simp only [ho] at hc
      have hc : ob (chk1 P c ops stg ⟨i, e, S, v, S', k⟩ (bif isQ o.op && !isN o.op then (List.range stg.length).filter (fun p => !(Nat.beq p k) && mayBe b sq i p) else []))
        (fun _ => chkF P c ops stg T' (needsR ops b sq stg.length l (bif isQ o.op then k else k + 1))) = some () := hc
      obtain ⟨_, h1, h2⟩ := ob_some hc
      rcases List.mem_cons.1 ht with rfl | ht
      · unfold recheck
        simp only [ho]
        cases hn : (!(isQ o.op) || isN o.op) with
        | true => rfl
        | false =>
          simp only [Bool.false_or]
          have hn' : (isQ o.op && !isN o.op) = true := by revert hn; cases isQ o.op <;> cases isN o.op <;> simp
          rw [hn'] at h1
          simp only [cond_true] at h1
          rw [List.all_eq_true]
          rintro ⟨Sp, p⟩ hm
          rw [List.mem_zipIdx_iff_getElem?] at hm
          have hm : stg[p]? = some Sp := hm
          cases hk : Nat.beq p k with
          | true => rfl
          | false =>
            cases hmb : mayBe b sq i p with
            | false => rfl
            | true =>
              simp only [Bool.false_or, Bool.not_true]
              have := chk1_mem h1 p (List.mem_filter.2 ⟨List.mem_range.2 (List.getElem?_eq_some_iff.1 hm).1, by rw [hk, hmb]; rfl⟩)
              obtain ⟨Sp', g1, g⟩ := ob_some this
              obtain ⟨o', g2, g⟩ := ob_some g
              obtain ⟨v', S2, g3, g⟩ := obp_some g
              obtain ⟨g4, g⟩ := ifB_some g
              obtain ⟨g5, g⟩ := ifB_some g
              rw [nthF_eq, hm] at g1
              injection g1 with g1
              subst g1
              rw [opAt_eq] at g2
              rw [ho] at g2
              injection g2 with g2
              subst g2
              simp only [stepOpF_some hcd g3, g4, g5, Bool.and_true]
      · exact chk_ok hcd hT h2 t ht
noncomputable def evDrawF (P : Program) (call : CallF) (ops : Array Oper) (pl : Plan) (e : Env) (S : St) : Option (Env × St) :=
  obp (runTF P call ops pl.ord 0 e S) fun T q => ob (chkF P call ops (stagesF ops S T) T pl.needs) fun _ => some q
/-- A plan fits a region. -/
def planFit (ops : Array Oper) (pl : Plan) : Bool :=
  planOk ops (masks ops) (ordOf ops) && decide (ordOf ops = pl.ord) && decide (needsR ops (masks ops) (seqOf ops (ordOf ops)) ((seqOf ops (ordOf ops)).length + 1) (ordOf ops) 0 = pl.needs)
theorem stages_length {call : CallF} {ops : Array Oper} {ord : List Nat} {env0 : Env} {S0 : St} {T : List TE} {env' : Env} {S' : St} {k0 : Nat} (h : TF P call ops ord env0 S0 T env' S' k0) : (stages ops S0 T).length = (seqOf ops ord).length + 1 := by
  unfold stages seqOf
  rw [← h.idx, List.filter_map]
  simp
  rfl
theorem evDrawF_some {c d : CallF} (hcd : CLe c d) {ops : Array Oper} {pl : Plan} (hp : planFit ops pl = true) {e : Env} {S : St} {r : Env × St} (h : evDrawF P c ops pl e S = some r) : evDraw P d ops e S = some r := by
  unfold planFit at hp
  simp only [Bool.and_eq_true, decide_eq_true_eq] at hp
  obtain ⟨⟨p1, p2⟩, p3⟩ := hp
  obtain ⟨T, q, h1, h⟩ := obp_some h
  obtain ⟨_, h2, h3⟩ := ob_some h
  injection h3 with h3
  subst h3
  have h1 := runTF_some hcd h1
  rw [← p2] at h1
  obtain ⟨e', s'⟩ := q
  have tf := TF.of h1
  rw [stagesF_eq, ← p3, ← stages_length tf] at h2
  unfold evDraw
  rw [p1]
  simp only [cond_true, h1]
  have := chk_ok hcd h1 h2
  rw [List.all_eq_true.2 this]
  rfl
end
end Go.Proofs.YtcandpiafgicbaaGreatDoor.Ev
