/- The evaluator: a region that draws its order. -/
import Derived.Test.YtcandpiafgicbaaGreatDoorEvU
namespace Go.Proofs.YtcandpiafgicbaaGreatDoor.Ev
open Go hiding Obj
set_option linter.unusedVariables false
set_option linter.unusedSimpArgs false
set_option linter.unusedSectionVars false
variable [Gl]
section
variable {P : Program}
structure PF (ops : Array Oper) (b ord : List Nat) : Prop where
  len : ord.length = ops.size
  mem : ∀ i, i < ops.size → i ∈ ord
  lt : ∀ i ∈ ord, i < ops.size
  nodup : ord.Nodup
  edge : ∀ (i : Nat) o, ops[i]? = some o → ∀ e ∈ o.after, Region.binds .any e = true → e.on < ops.size ∧ posOf ord e.on < posOf ord i
  mask : ∀ (i j : Nat) o, ops[i]? = some o → j < ops.size → bit b i j = true → (∃ e ∈ o.after, Region.binds .any e = true ∧ (e.on = j ∨ bit b e.on j = true)) ∧ posOf ord j < posOf ord i
  dst : ∀ (i j : Nat) o p d, ops[i]? = some o → ops[j]? = some p → o.dst = some d → p.dst = some d → i = j
  rds : ∀ (i j : Nat) o p d, ops[i]? = some o → ops[j]? = some p → p.dst = some d → d ∈ reads ops o → i = j ∨ bit b i j = true ∨ bit b j i = true
  eff : ∀ (i : Nat) o, ops[i]? = some o → isQ o.op = false → isF o = false → ∀ s ∈ seqOf ops ord, posOf ord s < posOf ord i → bit b i s = true
  pre : ∀ (i : Nat) o, ops[i]? = some o → ∀ s ∈ seqOf ops ord, bit b i s = true → ∀ s' ∈ seqOf ops ord, posOf ord s' < posOf ord s → bit b i s' = true
  one : ((seqOf ops ord).filter fun i => match ops[i]? with | some o => isF o | none => false).length ≤ 1
theorem nodup_of {ord : List Nat} (h : nodupB ord = true) : ord.Nodup := by
  rw [List.nodup_iff_pairwise_ne, List.pairwise_iff_getElem]
  intro i j hi hj hij e
  have key : ∀ k (hk : k < ord.length), posOf ord ord[k] = k := fun k hk => by
    have := List.all_eq_true.1 h (ord[k], k) (by rw [List.mem_zipIdx_iff_getElem?]; exact List.getElem?_eq_getElem hk)
    exact beq0 this
  have h1 := key i hi
  have h2 := key j hj
  rw [e, h2] at h1
  omega
theorem PF.of {ops : Array Oper} {b ord : List Nat} (h : planOk ops b ord = true) : PF ops b ord := by
  unfold planOk at h
  simp only [Bool.and_eq_true] at h
  obtain ⟨⟨⟨⟨⟨h1, h2⟩, h3⟩, h4⟩, h5⟩, h6⟩ := h
  have hm : ∀ i, i < ops.size → i ∈ List.range ops.size := fun i hi => List.mem_range.2 hi
  have lt' : ∀ {i : Nat} {o}, ops[i]? = some o → i < ops.size := fun h => (Array.getElem?_eq_some_iff.1 h).1
  have H := fun i o (ho : ops[i]? = some o) => List.all_eq_true.1 h5 i (hm i (lt' ho))
  have H' : ∀ i o, ops[i]? = some o → _ := fun i o ho => by
    have := H i o ho
    rw [ho] at this
    simp only [Bool.and_eq_true] at this
    exact this
  refine ⟨beq0 h1, fun i hi => ?_, fun i hi => ?_, nodup_of h4, fun i o ho e he hb => ?_, fun i j o ho hj hb => ?_, fun i j o p d ho hp hd hd' => ?_, fun i j o p d ho hp hd hr => ?_, fun i o ho hq hf s hs hlt => ?_, fun i o ho s hs hb s' hs' hlt => ?_, ble0 h6⟩
  · have := List.all_eq_true.1 h2 i (hm i hi)
    simpa using this
  · have := List.all_eq_true.1 h3 i hi
    simpa [Nat.blt_eq] using this
  · obtain ⟨⟨⟨g1, _⟩, _⟩, _⟩ := H' i o ho
    rw [Array.all_eq_true'] at g1
    have := g1 e he
    rw [hb] at this
    simpa [Nat.blt_eq] using this
  · obtain ⟨⟨⟨_, g2⟩, _⟩, _⟩ := H' i o ho
    have := List.all_eq_true.1 g2 j (hm j hj)
    obtain ⟨p, hp⟩ : ∃ p, ops[j]? = some p := ⟨ops[j], Array.getElem?_eq_getElem hj⟩
    rw [hp] at this
    simp only [Bool.and_eq_true, hb, Bool.not_true, Bool.false_or] at this
    obtain ⟨⟨⟨q1, q2⟩, _⟩, _⟩ := this
    rw [Array.any_eq_true'] at q1
    obtain ⟨e, he, hq⟩ := q1
    simp only [Bool.and_eq_true, Bool.or_eq_true] at hq
    exact ⟨⟨e, he, hq.1, hq.2.imp beq0 id⟩, by simpa [Nat.blt_eq] using q2⟩
  · obtain ⟨⟨⟨_, g2⟩, _⟩, _⟩ := H' i o ho
    have := List.all_eq_true.1 g2 j (hm j (lt' hp))
    rw [hp] at this
    simp only [Bool.and_eq_true, hd, hd'] at this
    obtain ⟨⟨_, q2⟩, _⟩ := this
    simp only [Bool.or_eq_true] at q2
    rcases q2 with q2 | q2
    · exact beq0 q2
    · simp at q2
  · obtain ⟨⟨⟨_, g2⟩, _⟩, _⟩ := H' i o ho
    have := List.all_eq_true.1 g2 j (hm j (lt' hp))
    rw [hp] at this
    simp only [Bool.and_eq_true, hd] at this
    obtain ⟨_, q3⟩ := this
    simp only [Bool.or_eq_true, Bool.not_eq_true'] at q3
    rcases q3 with ((q3 | q3) | q3) | q3
    · have : (reads ops o).contains d = true := by simpa using hr
      rw [this] at q3; cases q3
    · exact .inl (beq0 q3)
    · exact .inr (.inl q3)
    · exact .inr (.inr q3)
  · obtain ⟨⟨⟨_, _⟩, g3⟩, _⟩ := H' i o ho
    rw [hq, hf] at g3
    simp only [Bool.false_or] at g3
    have := List.all_eq_true.1 g3 s hs
    simp only [Bool.or_eq_true, Bool.not_eq_true'] at this
    rcases this with q | q
    · have : Nat.blt (posOf ord s) (posOf ord i) = true := by simpa [Nat.blt_eq] using hlt
      rw [this] at q; cases q
    · exact q
  · obtain ⟨_, g4⟩ := H' i o ho
    have := List.all_eq_true.1 g4 s hs
    simp only [Bool.or_eq_true, Bool.not_eq_true', hb, Bool.true_eq_false, false_or] at this
    have := List.all_eq_true.1 this s' hs'
    simp only [Bool.or_eq_true, Bool.not_eq_true'] at this
    rcases this with q | q
    · have : Nat.blt (posOf ord s') (posOf ord s) = true := by simpa [Nat.blt_eq] using hlt
      rw [this] at q; cases q
    · exact q
theorem PF.sorted {ops : Array Oper} {b ord : List Nat} (h : PF ops b ord) : (seqOf ops ord).Pairwise fun x y => posOf ord x < posOf ord y := by
  unfold seqOf
  refine List.Pairwise.sublist List.filter_sublist ?_
  rw [List.pairwise_iff_getElem]
  intro i j hi hj hij
  unfold posOf
  rw [h.nodup.idxOf_getElem i hi, h.nodup.idxOf_getElem j hj]
  exact hij
theorem PF.seq_lt {ops : Array Oper} {b ord : List Nat} (h : PF ops b ord) {j k s s' : Nat} (hj : (seqOf ops ord)[j]? = some s) (hk : (seqOf ops ord)[k]? = some s') (hjk : j < k) : posOf ord s < posOf ord s' := by
  obtain ⟨h1, rfl⟩ := List.getElem?_eq_some_iff.1 hj
  obtain ⟨h2, rfl⟩ := List.getElem?_eq_some_iff.1 hk
  exact (List.pairwise_iff_getElem.1 h.sorted) j k h1 h2 hjk
theorem PF.seq_inj {ops : Array Oper} {b ord : List Nat} (h : PF ops b ord) {j k s : Nat} (hj : (seqOf ops ord)[j]? = some s) (hk : (seqOf ops ord)[k]? = some s) : j = k := by
  rcases Nat.lt_trichotomy j k with hlt | rfl | hlt
  · exact absurd (h.seq_lt hj hk hlt) (by omega)
  · rfl
  · exact absurd (h.seq_lt hk hj hlt) (by omega)
noncomputable def dstOf (ops : Array Oper) (i : Nat) : Option Tmp := (ops[i]?).bind (·.dst)
/-- What a run of the region is. -/
structure TF (P : Program) (call : CallF) (ops : Array Oper) (ord : List Nat) (env0 : Env) (S0 : St) (T : List TE) (env' : Env) (S' : St) (k0 : Nat) : Prop where
  idx : T.map (·.i) = ord
  step : ∀ t ∈ T, ∃ o, ops[t.i]? = some o ∧ stepOp P call ops t.env t.S o = some (t.v, t.S') ∧ (isQ o.op = true → t.S' = t.S)
  chain : ∀ (j : Nat) (t : TE), (T.filter fun t => isSeq ops t.i)[j]? = some t → (stages ops S0 T)[j]? = some t.S ∧ (stages ops S0 T)[j + 1]? = some t.S'
  own : ∀ t ∈ T, k0 ≤ t.k ∧ (stages ops S0 T)[t.k - k0]? = some t.S
  last : (stages ops S0 T)[(T.filter fun t => isSeq ops t.i).length]? = some S'
  env : ∀ (k : Nat) (t : TE), T[k]? = some t → ∀ x v, t.env.at x = some v →
    (∃ (m : Nat) (u : TE), m < k ∧ T[m]? = some u ∧ dstOf ops u.i = some x ∧ v = u.v ∧ x < env0.sz) ∨ ((∀ (m : Nat) (u : TE), m < k → T[m]? = some u → dstOf ops u.i ≠ some x) ∧ env0.at x = some v)
  envL : ∀ x v, env'.at x = some v →
    (∃ u ∈ T, dstOf ops u.i = some x ∧ v = u.v ∧ x < env0.sz) ∨ ((∀ u ∈ T, dstOf ops u.i ≠ some x) ∧ env0.at x = some v)
  szL : env'.sz = env0.sz
theorem TF.of {call : CallF} {ops : Array Oper} : ∀ {ord : List Nat} {env0 : Env} {S0 : St} {T : List TE} {env' : Env} {S' : St} {k0 : Nat}, runT P call ops ord k0 env0 S0 = some (T, env', S') → TF P call ops ord env0 S0 T env' S' k0
  | [], env0, S0, T, env', S', k0, h => by
    simp only [runT, Option.some.injEq, Prod.mk.injEq] at h
    obtain ⟨rfl, rfl, rfl⟩ := h
    exact ⟨rfl, fun t ht => (by cases ht), fun j t hj => (by simp at hj), fun t ht => (by cases ht), (by simp [stages]), fun k t ht => (by simp at ht), fun x v hv => .inr ⟨fun u hu => (by cases hu), hv⟩, rfl⟩
  | i :: is, env0, S0, T, env', S', k0, h => by
    unfold runT at h
    cases ho : ops[i]? with
    | none => rw [ho] at h; simp at h
    | some o =>
      rw [ho] at h
      simp only at h
      cases hs : stepOp P call ops env0 S0 o with
      | none => rw [hs] at h; simp at h
      | some vs =>
        obtain ⟨v0, S1⟩ := vs
        rw [hs] at h
        simp only at h
        cases hq : (isQ o.op && !(Nat.beq S1.next S0.next)) with
        | true => rw [hq] at h; simp at h
        | false =>
          rw [hq] at h
          simp only [cond_false] at h
          have hQ : isQ o.op = true → S1 = S0 := fun hqq => by
            rw [hqq] at hq
            simp only [Bool.true_and, Bool.not_eq_false'] at hq
            exact step_Q hqq hs (beq0 hq)
          cases hr : runT P call ops is (bif isQ o.op then k0 else k0 + 1) (env0.up o.dst v0) S1 with
          | none => rw [hr] at h; simp at h
          | some q =>
            obtain ⟨T1, e1, s1⟩ := q
            rw [hr] at h
            simp only [Option.some.injEq, Prod.mk.injEq] at h
            obtain ⟨rfl, rfl, rfl⟩ := h
            have ih := TF.of hr
            have hd : dstOf ops i = o.dst := by simp [dstOf, ho]
            have hsz : (env0.up o.dst v0).sz = env0.sz := Env.sz_up _ _ _
            refine ⟨by simp [ih.idx], ?_, ?_, ?_, ?_, ?_, ?_, by rw [ih.szL, hsz]⟩
            · intro t ht
              rcases List.mem_cons.1 ht with rfl | ht
              · exact ⟨o, ho, hs, hQ⟩
              · exact ih.step t ht
            · cases hseq : isSeq ops i with
              | false =>
                have hqq : isQ o.op = true := by simpa [isSeq, ho] using hseq
                obtain rfl := hQ hqq
                intro j t hj
                rw [List.filter_cons_of_neg (by simp [hseq])] at hj
                have := ih.chain j t hj
                unfold stages at this ⊢
                rw [List.filter_cons_of_neg (by simp [hseq])]
                exact this
              | true =>
                intro j t hj
                rw [List.filter_cons_of_pos (by simp [hseq])] at hj
                unfold stages
                rw [List.filter_cons_of_pos (by simp [hseq])]
                cases j with
                | zero =>
                  simp only [List.getElem?_cons_zero, Option.some.injEq] at hj
                  subst hj
                  exact ⟨rfl, rfl⟩
                | succ j =>
                  simp only [List.getElem?_cons_succ] at hj
                  have := ih.chain j t hj
                  unfold stages at this
                  simpa using this
            · intro t ht
              rcases List.mem_cons.1 ht with rfl | ht
              · exact ⟨Nat.le_refl _, by simp [stages]⟩
              · obtain ⟨g1, g2⟩ := ih.own t ht
                cases hseq : isSeq ops i with
                | false =>
                  have hqq : isQ o.op = true := by simpa [isSeq, ho] using hseq
                  obtain rfl := hQ hqq
                  rw [hqq] at g1 g2
                  simp only [cond_true] at g1 g2
                  refine ⟨g1, ?_⟩
                  unfold stages at g2 ⊢
                  rw [List.filter_cons_of_neg (by simp [hseq])]
                  exact g2
                | true =>
                  have hqq : isQ o.op = false := by simpa [isSeq, ho] using hseq
                  rw [hqq] at g1 g2
                  simp only [cond_false] at g1 g2
                  refine ⟨by omega, ?_⟩
                  unfold stages at g2 ⊢
                  rw [List.filter_cons_of_pos (by simp [hseq]), show t.k - k0 = (t.k - (k0 + 1)) + 1 by omega]
                  simpa using g2
            · cases hseq : isSeq ops i with
              | false =>
                have hqq : isQ o.op = true := by simpa [isSeq, ho] using hseq
                obtain rfl := hQ hqq
                have := ih.last
                unfold stages at this ⊢
                rw [List.filter_cons_of_neg (by simp [hseq])]
                exact this
              | true =>
                have := ih.last
                unfold stages at this ⊢
                rw [List.filter_cons_of_pos (by simp [hseq])]
                simpa using this
            · intro k t hk x v hv
              cases k with
              | zero =>
                simp only [List.getElem?_cons_zero, Option.some.injEq] at hk
                subst hk
                exact .inr ⟨fun m u hm => by omega, hv⟩
              | succ k =>
                simp only [List.getElem?_cons_succ] at hk
                rcases ih.env k t hk x v hv with ⟨m, u, h1, h2, h3, h4, h5⟩ | ⟨h1, h2⟩
                · exact .inl ⟨m + 1, u, by omega, by simpa using h2, h3, h4, by rw [← hsz]; exact h5⟩
                · rcases Env.at_up h2 with ⟨g1, g2, g3⟩ | ⟨g1, g2⟩
                  · exact .inl ⟨0, ⟨i, env0, S0, v0, S1, k0⟩, by omega, rfl, by rw [hd]; exact g1, g2, g3⟩
                  · refine .inr ⟨fun m u hm hu => ?_, g2⟩
                    cases m with
                    | zero =>
                      simp only [List.getElem?_cons_zero, Option.some.injEq] at hu
                      subst hu
                      rw [hd]; exact g1
                    | succ m => exact h1 m u (by omega) (by simpa using hu)
            · intro x v hv
              rcases ih.envL x v hv with ⟨u, h1, h2, h3, h4⟩ | ⟨h1, h2⟩
              · exact .inl ⟨u, List.mem_cons_of_mem _ h1, h2, h3, by rw [← hsz]; exact h4⟩
              · rcases Env.at_up h2 with ⟨g1, g2, g3⟩ | ⟨g1, g2⟩
                · exact .inl ⟨⟨i, env0, S0, v0, S1, k0⟩, List.mem_cons_self, by rw [hd]; exact g1, g2, g3⟩
                · refine .inr ⟨fun u hu => ?_, g2⟩
                  rcases List.mem_cons.1 hu with rfl | hu
                  · rw [hd]; exact g1
                  · exact h1 u hu
end
end Go.Proofs.YtcandpiafgicbaaGreatDoor.Ev
