/- The evaluator: a region that draws its order: every order leads to the same. -/
import Derived.Test.YtcandpiafgicbaaGreatDoorEvV
namespace Go.Proofs.YtcandpiafgicbaaGreatDoor.Ev
open Go hiding Obj
set_option linter.unusedVariables false
set_option linter.unusedSimpArgs false
set_option linter.unusedSectionVars false
variable [Gl]
abbrev In (l : Array Bool) (i : Nat) : Prop := l.getD i false = true
section
variable {P : Program}
/-- A new variable that lies ready. -/
noncomputable def Pend (P : Program) (ops : Array Oper) (w0 : World) (r : Ren) (S : St) (t : TE) (a : Act) (w : World) : Prop :=
  ∃ (e : TypeId) (z : Value) (bf : Nat), plain z = true ∧ z.cells.toList.all (·.oneCell') = true ∧ t.v = .pointer (some ⟨t.S.next, 0, none⟩) ∧ t.S' = t.S.new (.cells z.cells.toList e 0) ∧ bf < w.heap.size ∧ (w0.heap.size ≤ bf ∧ ∀ p ∈ Gl.cells, p.1 ≠ bf) ∧ ¬ Owned r S bf ∧
    w.heap[bf]? = some (.cells z.cells e (0, 0)) ∧ ∀ x, dstOf ops t.i = some x → x < a.tmps.size → a.tmps[x]? = some (.pointer (some ⟨bf, 0, none⟩))
structure Inv (P : Program) (ops : Array Oper) (b ord : List Nat) (T : List TE) (env0 : Env) (r0 : Ren) (S0 : St) (w0 : World) (a0 : Act) (l : Array Bool) (j : Nat) (S : St) (r : Ren) (a : Act) (w : World) : Prop where
  lsz : l.size = ops.size
  stg : (stages ops S0 T)[j]? = some S
  fr : Fr r0 S0 w0 r S w
  down : ∀ i k, i < ops.size → k < ops.size → In l i → bit b i k = true → In l k
  pre : ∀ (k s : Nat), k < j → (seqOf ops ord)[k]? = some s → In l s
  pend : ∀ (k s : Nat), j ≤ k → (seqOf ops ord)[k]? = some s → In l s → ∃ t ∈ T, t.i = s ∧ (∃ o, ops[s]? = some o ∧ isF o = true) ∧ Pend P ops w0 r S t a w
  vals : ∀ t ∈ T, In l t.i → (∀ k, (seqOf ops ord)[k]? = some t.i → k < j) → ∀ x, dstOf ops t.i = some x → x < a.tmps.size → ∃ v', a.tmps[x]? = some v' ∧ VR r t.v v'
  olds : ∀ x, (∀ i, In l i → dstOf ops i ≠ some x) → ∀ v, env0.at x = some v → ∃ v', a.tmps[x]? = some v' ∧ VR r v v'
  tsz : a.tmps.size = a0.tmps.size
  dfr : a.defers = a0.defers
variable {call : CallF} {ops : Array Oper} {b ord : List Nat} {T : List TE} {env0 env' : Env} {r0 : Ren} {S0 S' : St} {w0 : World} {a0 : Act}
theorem TF.seqIdx (h : TF P call ops ord env0 S0 T env' S' 0) : (T.filter fun t => isSeq ops t.i).map (·.i) = seqOf ops ord := by
  unfold seqOf
  rw [← h.idx, List.filter_map]
  rfl
theorem TF.uniq (h : TF P call ops ord env0 S0 T env' S' 0) (hn : ord.Nodup) {t u : TE} (ht : t ∈ T) (hu : u ∈ T) (e : t.i = u.i) : t = u := by
  obtain ⟨i, hi⟩ := List.getElem?_of_mem ht
  obtain ⟨j, hj⟩ := List.getElem?_of_mem hu
  have h1 : ord[i]? = some t.i := by rw [← h.idx]; simp [hi]
  have h2 : ord[j]? = some u.i := by rw [← h.idx]; simp [hj]
  obtain ⟨hi', e1⟩ := List.getElem?_eq_some_iff.1 h1
  obtain ⟨hj', e2⟩ := List.getElem?_eq_some_iff.1 h2
  have : i = j := by
    have q1 := hn.idxOf_getElem i hi'
    have q2 := hn.idxOf_getElem j hj'
    rw [e1] at q1
    rw [e2, ← e] at q2
    exact q1.symm.trans q2
  subst this
  rw [hi] at hj
  exact Option.some.inj hj
theorem TF.entry (h : TF P call ops ord env0 S0 T env' S' 0) {i : Nat} (hi : i ∈ ord) : ∃ t ∈ T, t.i = i := by
  rw [← h.idx] at hi
  obtain ⟨t, ht, e⟩ := List.mem_map.1 hi
  exact ⟨t, ht, e⟩
theorem TF.seqAt (h : TF P call ops ord env0 S0 T env' S' 0) (hn : ord.Nodup) {j s : Nat} (hj : (seqOf ops ord)[j]? = some s) {t : TE} (ht : t ∈ T) (e : t.i = s) : (stages ops S0 T)[j]? = some t.S ∧ (stages ops S0 T)[j + 1]? = some t.S' := by
  rw [← h.seqIdx] at hj
  rw [List.getElem?_map] at hj
  cases hq : (T.filter fun t => isSeq ops t.i)[j]? with
  | none => rw [hq] at hj; simp at hj
  | some u =>
    rw [hq] at hj
    simp only [Option.map_some, Option.some.injEq] at hj
    have hu : u ∈ T := (List.mem_filter.1 (List.mem_of_getElem? hq)).1
    have := h.uniq hn ht hu (e.trans hj.symm)
    subst this
    exact h.chain j t hq
theorem Pend.keep {r r' : Ren} {S S1 : St} {t : TE} {a a' : Act} {w w' : World} (h : Pend P ops w0 r S t a w) (hf : Fr r S w r' S1 w') (ha : ∀ x, dstOf ops t.i = some x → a'.tmps[x]? = a.tmps[x]?) (hs : a'.tmps.size = a.tmps.size) : Pend P ops w0 r' S1 t a' w' := by
  obtain ⟨e, z, bf, h1, h2, h3, h4, h5, h6, h7, h8, h9⟩ := h
  refine ⟨e, z, bf, h1, h2, h3, h4, Nat.lt_of_lt_of_le h5 hf.size, h6, fun ho => ?_, ?_, fun x hx hlt => ?_⟩
  · rcases hf.own bf ho with g | g
    · exact h7 g
    · omega
  · rw [hf.kept bf h5 h7]; exact h8
  · rw [ha x hx]; exact h9 x hx (by rw [← hs]; exact hlt)
/-- A new variable that lies ready is counted. -/
theorem Inv.adv (pf : PF ops b ord) (tf : TF P call ops ord env0 S0 T env' S' 0) {l : Array Bool} {j : Nat} {S : St} {r : Ren} {a : Act} {w : World} (h : Inv P ops b ord T env0 r0 S0 w0 a0 l j S r a w) {s : Nat} (hs : (seqOf ops ord)[j]? = some s) (hl : In l s) :
    ∃ S1 r1, Inv P ops b ord T env0 r0 S0 w0 a0 l (j + 1) S1 r1 a w := by
  obtain ⟨t, ht, hti, ⟨o, ho, hof⟩, e, z, bf, h1, h2, h3, h4, h5, h6, h7, h8, h9⟩ := h.pend j s (Nat.le_refl _) hs hl
  obtain ⟨c1, c2⟩ := tf.seqAt pf.nodup hs ht hti
  have hS : t.S = S := by have := h.stg; rw [c1] at this; exact Option.some.inj this
  subst hS
  have hz : VRs r z.cells.toList z.cells.toList := (VR.pl h1).cells
  obtain ⟨ha1, ha2⟩ := h.fr.rel.adopt (sz := 0) (e := e) (cs' := z.cells.toList) h8 h7 h6.2 hz (hz.one h2)
  rw [← h4] at ha1 ha2
  have hn := h.fr.rel.n
  have hle : r.le (r.ext t.S.next bf 0 0) := r.le_ext (by omega) bf 0 0
  refine ⟨t.S', r.ext t.S.next bf 0 0, h.lsz, c2, ?_, h.down, ?_, ?_, ?_, ?_, h.tsz, h.dfr⟩
  · exact { le := Ren.le_trans h.fr.le hle, rel := ha1, size := h.fr.size, kept := h.fr.kept, os := h.fr.os, tape := h.fr.tape, output := h.fr.output
            own := fun q hq => by
              rcases ha2 q hq with g | rfl
              · exact h.fr.own q g
              · exact .inr h6.1 }
  · intro k s' hk hs'
    rcases Nat.lt_or_ge k j with hlt | hge
    · exact h.pre k s' hlt hs'
    · obtain rfl : k = j := by omega
      rw [hs] at hs'; injection hs' with hs'; subst hs'; exact hl
  · intro k s' hk hs' hl'
    exfalso
    obtain ⟨t', _, _, ⟨o', ho', hof'⟩, _⟩ := h.pend k s' (by omega) hs' hl'
    have hmem : ∀ {q x : Nat} {p : Oper}, (seqOf ops ord)[q]? = some x → ops[x]? = some p → isF p = true → x ∈ (seqOf ops ord).filter fun i => match ops[i]? with | some o => isF o | none => false := fun hq hx hp => by
      rw [List.mem_filter]
      exact ⟨List.mem_of_getElem? hq, by rw [hx]; exact hp⟩
    have m1 := hmem hs ho hof
    have m2 := hmem hs' ho' hof'
    have hne : s ≠ s' := fun e => by
      subst e
      have := pf.seq_inj hs hs'
      omega
    have := pf.one
    generalize ((seqOf ops ord).filter fun i => match ops[i]? with | some o => isF o | none => false) = L at m1 m2 this
    match L, this with
    | [], _ => cases m1
    | [x], _ =>
      simp only [List.mem_singleton] at m1 m2
      exact hne (m1.trans m2.symm)
  · intro u hu hlu hk x hx hlt
    by_cases hus : u.i = s
    · have : u = t := tf.uniq pf.nodup hu ht (hus.trans hti.symm)
      subst this
      refine ⟨_, h9 x hx hlt, ?_⟩
      rw [h3]
      exact VR.newP h.fr.rel _ _
    · obtain ⟨v', g1, g2⟩ := h.vals u hu hlu (fun k hk' => by
        have := hk k hk'
        rcases Nat.lt_or_ge k j with q | q
        · exact q
        · obtain rfl : k = j := by omega
          rw [hs] at hk'
          exact absurd (Option.some.inj hk').symm hus) x hx hlt
      exact ⟨v', g1, g2.mono hle⟩
  · intro x hx v hv
    obtain ⟨v', g1, g2⟩ := h.olds x hx v hv
    exact ⟨v', g1, g2.mono hle⟩
theorem Inv.advTo (pf : PF ops b ord) (tf : TF P call ops ord env0 S0 T env' S' 0) {l : Array Bool} {a : Act} {w : World} (J : Nat) (hJ : ∀ (k s : Nat), k < J → (seqOf ops ord)[k]? = some s → In l s) (hlen : J ≤ (seqOf ops ord).length) :
    ∀ (d j : Nat) {S : St} {r : Ren}, J ≤ j + d → Inv P ops b ord T env0 r0 S0 w0 a0 l j S r a w → ∃ j' S1 r1, J ≤ j' ∧ Inv P ops b ord T env0 r0 S0 w0 a0 l j' S1 r1 a w
  | 0, j, S, r, hd, h => ⟨j, S, r, hd, h⟩
  | d + 1, j, S, r, hd, h => by
    rcases Nat.lt_or_ge j J with hlt | hge
    · have hs : (seqOf ops ord)[j]? = some (seqOf ops ord)[j] := List.getElem?_eq_getElem (by omega)
      obtain ⟨S1, r1, h1⟩ := h.adv pf tf hs (hJ j _ hlt hs)
      exact Inv.advTo pf tf J hJ hlen d (j + 1) (by omega) h1
    · exact ⟨j, S, r, hge, h⟩
theorem in_set {l : Array Bool} {i k : Nat} (hi : i < l.size) : In (l.setIfInBounds i true) k ↔ k = i ∨ In l k := by
  unfold In
  simp only [Array.getD_eq_getD_getElem?]
  rw [Array.getElem?_setIfInBounds]
  by_cases h : i = k
  · subst h; simp [hi]
  · simp only [h, if_false]
    constructor
    · exact .inr
    · rintro (rfl | h')
      · exact absurd rfl h
      · exact h'
/-- What stands in the slots that an operation looks at. -/
theorem Inv.look (pf : PF ops b ord) (tf : TF P call ops ord env0 S0 T env' S' 0) {l : Array Bool} {j : Nat} {S : St} {r : Ren} {a : Act} {w : World} (h : Inv P ops b ord T env0 r0 S0 w0 a0 l j S r a w) (hsz : env0.sz = a0.tmps.size) {i : Nat} {o : Oper} (ho : ops[i]? = some o) (hni : ¬ In l i)
    (hp : ∀ k, k < ops.size → bit b i k = true → In l k) (hj : ∀ (k s : Nat), (seqOf ops ord)[k]? = some s → bit b i s = true → k < j) {t : TE} (ht : t ∈ T) (hti : t.i = i) :
    ∀ x, x ∈ reads ops o → ∀ v, t.env.at x = some v → ∃ v', a.tmps[x]? = some v' ∧ VR r v v' := by
  intro x hx v hv
  obtain ⟨k, hk⟩ := List.getElem?_of_mem ht
  have hki : ord[k]? = some i := by rw [← tf.idx, ← hti]; simp [hk]
  have hposi : posOf ord i = k := by
    obtain ⟨h1, h2⟩ := List.getElem?_eq_some_iff.1 hki
    unfold posOf
    rw [← h2, pf.nodup.idxOf_getElem k h1]
  have hidx : ∀ {m : Nat} {u : TE}, T[m]? = some u → posOf ord u.i = m ∧ u.i ∈ ord := fun {m u} hu => by
    have h0 : ord[m]? = some u.i := by rw [← tf.idx]; simp [hu]
    obtain ⟨h1, h2⟩ := List.getElem?_eq_some_iff.1 h0
    refine ⟨?_, List.mem_of_getElem? h0⟩
    unfold posOf
    rw [← h2, pf.nodup.idxOf_getElem m h1]
  have hop : ∀ {q : Nat} {d : Tmp}, dstOf ops q = some d → ∃ p, ops[q]? = some p ∧ p.dst = some d := fun {q d} hq => by
    unfold dstOf at hq
    cases hp : ops[q]? with
    | none => rw [hp] at hq; simp at hq
    | some p => rw [hp] at hq; exact ⟨p, rfl, by simpa using hq⟩
  have hilt : i < ops.size := (Array.getElem?_eq_some_iff.1 ho).1
  rcases tf.env k t hk x v hv with ⟨m, u, h1, h2, h3, h4, h5⟩ | ⟨h1, h2⟩
  · obtain ⟨hpu, humem⟩ := hidx h2
    obtain ⟨p, hp1, hp2⟩ := hop h3
    have hult := pf.lt _ humem
    rcases pf.rds i u.i o p x ho hp1 hp2 hx with q | q | q
    · rw [← q] at hpu; omega
    · have hin := hp u.i hult q
      obtain ⟨v', g1, g2⟩ := h.vals u (List.mem_of_getElem? h2) hin (fun k' hk' => hj k' _ hk' q) x h3 (by rw [h.tsz, ← hsz]; exact h5)
      exact ⟨v', g1, by rw [h4]; exact g2⟩
    · have := (pf.mask u.i i p hp1 hilt q).2
      omega
  · refine h.olds x (fun q hq hdq => ?_) v h2
    obtain ⟨p, hp1, hp2⟩ := hop hdq
    have hqlt : q < ops.size := (Array.getElem?_eq_some_iff.1 hp1).1
    obtain ⟨u, hu, hui⟩ := tf.entry (pf.mem q hqlt)
    obtain ⟨m, hm⟩ := List.getElem?_of_mem hu
    obtain ⟨hpu, _⟩ := hidx hm
    rw [hui] at hpu
    rcases pf.rds i q o p x ho hp1 hp2 hx with e | e | e
    · subst e; exact hni hq
    · have := (pf.mask i q o ho hqlt e).2
      refine h1 m u (by omega) hm ?_
      rw [hui]; exact hdq
    · exact hni (h.down q i hqlt hilt hq e)
theorem isSeq_of {i : Nat} {o : Oper} (ho : ops[i]? = some o) (hq : isQ o.op = false) : isSeq ops i = true := by simp [isSeq, ho, hq]
theorem put_defers (a : Act) (d : Option Tmp) (v : Value) : (a.put d v).defers = a.defers := by cases d <;> rfl
/-- One more operation. -/
theorem Inv.exec (hcall : CallOk P call) (pf : PF ops b ord) (tf : TF P call ops ord env0 S0 T env' S' 0) (hrc : ∀ t ∈ T, recheck P call ops b (seqOf ops ord) (stages ops S0 T) t = true) (hsz : env0.sz = a0.tmps.size) {l : Array Bool} {j0 : Nat} {Sj : St} {rj : Ren} {a : Act} {w : World}
    (h0 : Inv P ops b ord T env0 r0 S0 w0 a0 l j0 Sj rj a w) {i : Nat} (hi : i ∈ Region.ready .any ops l) {Q : Exit → Act → World → Prop} {K : Act → World → Prop}
    (hK : ∀ j S r a' w', Inv P ops b ord T env0 r0 S0 w0 a0 (l.setIfInBounds i true) j S r a' w' → K a' w') : wpOp P ops Q i K a w := by
  -- what is ready
  have hready : i < ops.size ∧ ¬ In l i ∧ ∀ o, ops[i]? = some o → ∀ e ∈ o.after, Region.binds .any e = true → In l e.on := by
    unfold Region.ready at hi
    rw [List.mem_filter] at hi
    obtain ⟨h1, h2⟩ := hi
    simp only [Bool.and_eq_true, Bool.not_eq_true'] at h2
    obtain ⟨h2, h3⟩ := h2
    have hlt := List.mem_range.1 h1
    refine ⟨hlt, fun hin => ?_, fun o ho e he hb => ?_⟩
    · unfold In at hin
      simp only [Array.getD_eq_getD_getElem?] at hin h2
      rw [Array.getElem?_eq_getElem (by rw [h0.lsz]; exact hlt)] at hin h2
      simp only [Option.getD_some] at hin h2
      rw [hin] at h2; cases h2
    · rw [ho] at h3
      simp only [Option.map_some, Option.getD_some] at h3
      rw [Array.all_eq_true'] at h3
      have := h3 e he
      rw [hb] at this
      simp only [Bool.not_true, Bool.false_or] at this
      exact this
  obtain ⟨hilt, hni, hafter⟩ := hready
  obtain ⟨o, ho⟩ : ∃ o, ops[i]? = some o := ⟨ops[i], Array.getElem?_eq_getElem hilt⟩
  have hpred : ∀ k, k < ops.size → bit b i k = true → In l k := fun k hk hb => by
    obtain ⟨⟨e, he, hbi, hek⟩, _⟩ := pf.mask i k o ho hk hb
    have hon := hafter o ho e he hbi
    rcases hek with rfl | hek
    · exact hon
    · exact h0.down e.on k (pf.edge i o ho e he hbi).1 hk hon hek
  have seqlt : ∀ {k s : Nat}, (seqOf ops ord)[k]? = some s → s < ops.size ∧ s ∈ seqOf ops ord ∧ s ∈ ord := fun hk => by
    have hm := List.mem_of_getElem? hk
    have := (List.mem_filter.1 hm).1
    exact ⟨pf.lt _ this, hm, this⟩
  -- so far the others must have come
  obtain ⟨J, hJ1, hJ2, hJ3⟩ : ∃ J, J ≤ (seqOf ops ord).length ∧ (∀ (k s : Nat), k < J → (seqOf ops ord)[k]? = some s → In l s) ∧ (∀ (k s : Nat), (seqOf ops ord)[k]? = some s → bit b i s = true → k < J) := by
    have key : ∀ n, n ≤ (seqOf ops ord).length → ∃ J, J ≤ n ∧ (∀ (k s : Nat), k < J → (seqOf ops ord)[k]? = some s → In l s) ∧ (∀ (k s : Nat), k < n → (seqOf ops ord)[k]? = some s → bit b i s = true → k < J) := by
      intro n
      induction n with
      | zero => exact fun _ => ⟨0, Nat.le_refl _, fun k s hk => by omega, fun k s hk => by omega⟩
      | succ n ih =>
        intro hn
        obtain ⟨J, g1, g2, g3⟩ := ih (by omega)
        have hs : (seqOf ops ord)[n]? = some (seqOf ops ord)[n] := List.getElem?_eq_getElem (by omega)
        by_cases hb : bit b i (seqOf ops ord)[n] = true
        · refine ⟨n + 1, Nat.le_refl _, fun k s hk hks => ?_, fun k s hk _ _ => hk⟩
          obtain ⟨q1, q2, _⟩ := seqlt hks
          rcases Nat.lt_or_ge k n with hlt | hge
          · exact hpred s q1 (pf.pre i o ho _ (List.getElem_mem _) hb s q2 (pf.seq_lt hks hs hlt))
          · obtain rfl : k = n := by omega
            rw [hs] at hks; injection hks with hks; subst hks
            exact hpred _ q1 hb
        · refine ⟨J, by omega, g2, fun k s hk hks hbs => ?_⟩
          rcases Nat.lt_or_ge k n with hlt | hge
          · exact g3 k s hlt hks hbs
          · obtain rfl : k = n := by omega
            rw [hs] at hks; injection hks with hks; subst hks
            exact absurd hbs hb
    obtain ⟨J, g1, g2, g3⟩ := key _ (Nat.le_refl _)
    exact ⟨J, g1, g2, fun k s hk => g3 k s (List.getElem?_eq_some_iff.1 hk).1 hk⟩
  obtain ⟨j, S, r, hjJ, h⟩ := h0.advTo pf tf J hJ2 hJ1 J j0 (by omega)
  obtain ⟨t, ht, hti⟩ := tf.entry (pf.mem i hilt)
  have hlook := h.look pf tf hsz ho hni hpred (fun k s hk hb => Nat.lt_of_lt_of_le (hJ3 k s hk hb) hjJ) ht hti
  obtain ⟨o', ho', hst, hstQ⟩ := tf.step t ht
  rw [hti, ho] at ho'
  obtain rfl : o = o' := Option.some.inj ho'
  have hdst : dstOf ops i = o.dst := by simp [dstOf, ho]
  have hdown : ∀ p k, p < ops.size → k < ops.size → In (l.setIfInBounds i true) p → bit b p k = true → In (l.setIfInBounds i true) k := fun p k hp hk hin hb => by
    have hil : i < l.size := by rw [h0.lsz]; exact hilt
    rw [in_set hil] at hin ⊢
    rcases hin with rfl | hin
    · exact .inr (hpred k hk hb)
    · exact .inr (h0.down p k hp hk hin hb)
  have hil : i < l.size := by rw [h0.lsz]; exact hilt
  have hother : ∀ u ∈ T, u.i ≠ i → ∀ x, dstOf ops u.i = some x → o.dst ≠ some x := fun u hu hne x hx hd => by
    unfold dstOf at hx
    cases hp : ops[u.i]? with
    | none => rw [hp] at hx; simp at hx
    | some p =>
      rw [hp] at hx
      exact hne (pf.dst u.i i p o x hp ho (by simpa using hx) hd)
  -- the step at the state at hand
  have fin : ∀ (S1 : St), stepOp P call ops t.env S o = some (t.v, S1) → ∀ (j1 : Nat), (stages ops S0 T)[j1]? = some S1 → (∀ (k s : Nat), k < j1 → (seqOf ops ord)[k]? = some s → In (l.setIfInBounds i true) s) → (j1 = j ∨ j1 = j + 1 ∧ (seqOf ops ord)[j]? = some i) →
      (∀ (k : Nat), (seqOf ops ord)[k]? = some i → k < j1) → wpOp P ops Q i K a w := fun S1 hs j1 hj1 hpre1 hjj hik => by
    unfold wpOp
    rw [ho]
    simp only
    refine step_wp hcall hs h.fr.rel hlook fun r' v' w' f1 f2 => hK j1 S1 r' _ _ ?_
    refine ⟨by simp [h.lsz], hj1, h.fr.trans f1, hdown, hpre1, ?_, ?_, ?_, by rw [put_size]; exact h.tsz, by rw [put_defers]; exact h.dfr⟩
    · intro k s hk hks hin
      rw [in_set hil] at hin
      rcases hin with rfl | hin
      · have := hik k hks; omega
      · obtain ⟨u, hu, hui, hof, hpend⟩ := h.pend k s (by omega) hks hin
        refine ⟨u, hu, hui, hof, hpend.keep f1 (fun x hx => ?_) (put_size _ _ _)⟩
        have hne : u.i ≠ i := fun e => by rw [hui] at e; subst e; exact hni hin
        have hd := hother u hu hne x hx
        by_cases hlt : x < a.tmps.size
        · exact (put_get a o.dst v' hlt).2 hd
        · have hge : a.tmps.size ≤ x := Nat.le_of_not_lt hlt
          rw [Array.getElem?_eq_none (by rw [put_size]; exact hge), Array.getElem?_eq_none hge]
    · intro u hu hin hk x hx hlt
      rw [put_size] at hlt
      rw [in_set hil] at hin
      by_cases hui : u.i = i
      · have : u = t := tf.uniq pf.nodup hu ht (hui.trans hti.symm)
        subst this
        rw [hui, hdst] at hx
        exact ⟨v', (put_get a o.dst v' hlt).1 hx, f2⟩
      · have hkk : ∀ k, (seqOf ops ord)[k]? = some u.i → k < j := fun k hk' => by
          rcases Nat.lt_or_ge k j with q | q
          · exact q
          · exfalso
            have hkj := hk k hk'
            rcases hjj with rfl | ⟨rfl, hji⟩
            · omega
            · obtain rfl : k = j := by omega
              exact hui (Option.some.inj (hk'.symm.trans hji))
        obtain ⟨v2, g1, g2⟩ := h.vals u hu (hin.resolve_left hui) hkk x hx hlt
        exact ⟨v2, by rw [(put_get a o.dst v' hlt).2 (hother u hu hui x hx)]; exact g1, g2.mono f1.le⟩
    · intro x hx v hv
      obtain ⟨v2, g1, g2⟩ := h.olds x (fun q hq => hx q ((in_set hil).2 (.inr hq))) v hv
      have hlt := (Array.getElem?_eq_some_iff.1 g1).1
      have hd : o.dst ≠ some x := by rw [← hdst]; exact hx i ((in_set hil).2 (.inl rfl))
      exact ⟨v2, by rw [(put_get a o.dst v' hlt).2 hd]; exact g1, g2.mono f1.le⟩
  have hpre' : ∀ (k s : Nat), k < j → (seqOf ops ord)[k]? = some s → In (l.setIfInBounds i true) s := fun k s hk hks => (in_set hil).2 (.inr (h.pre k s hk hks))
  cases hq : isQ o.op with
  | true =>
    have hnseq : ∀ k, (seqOf ops ord)[k]? = some i → k < j := fun k hk => by
      have := (List.mem_filter.1 (List.mem_of_getElem? hk)).2
      simp [isSeq, ho, hq] at this
    cases hN : isN o.op with
    | true => exact fin S (step_N hN hst S) j h.stg hpre' (.inl rfl) hnseq
    | false =>
      have hrct := hrc t ht
      unfold recheck at hrct
      rw [hti, ho] at hrct
      simp only [hq, hN, Bool.not_true, Bool.false_or] at hrct
      have hmem : (S, j) ∈ (stages ops S0 T).zipIdx := by
        rw [List.mem_zipIdx_iff_getElem?]; exact h.stg
      have hone := List.all_eq_true.1 hrct (S, j) hmem
      simp only [Bool.or_eq_true, Bool.not_eq_true'] at hone
      by_cases hown : j = t.k
      · obtain ⟨_, g2⟩ := tf.own t ht
        rw [Nat.sub_zero, ← hown, h.stg] at g2
        have hS : S = t.S := Option.some.inj g2
        have hS' := hstQ hq
        rw [hS'] at hst
        rw [← hS] at hst
        exact fin S hst j h.stg hpre' (.inl rfl) hnseq
      have hnb : Nat.beq j t.k = false := by
        cases hb : Nat.beq j t.k with
        | false => rfl
        | true => exact absurd (beq0 hb) hown
      rw [hnb] at hone
      simp only [Bool.false_eq_true, false_or] at hone
      have hmay : mayBe b (seqOf ops ord) i j = true := by
        unfold mayBe
        rw [List.all_eq_true]
        rintro ⟨s, jj⟩ hs
        rw [List.mem_zipIdx_iff_getElem?] at hs
        simp only at hs ⊢
        obtain ⟨q1, _, _⟩ := seqlt hs
        cases hb : Nat.blt jj j with
        | true =>
          have hlt : jj < j := by simpa [Nat.blt_eq] using hb
          simp only [cond_true, Bool.not_eq_true']
          cases hbi : bit b s i with
          | false => rfl
          | true => exact absurd (h.down s i q1 hilt (h.pre jj s hlt hs) hbi) hni
        | false =>
          simp only [cond_false, Bool.not_eq_true']
          cases hbi : bit b i s with
          | false => rfl
          | true =>
            have hlt := hJ3 jj s hs hbi
            have : Nat.blt jj j = true := by simpa [Nat.blt_eq] using Nat.lt_of_lt_of_le hlt hjJ
            rw [this] at hb; cases hb
      rw [hmay] at hone
      simp only [Bool.true_eq_false, false_or] at hone
      cases hs : stepOp P call ops t.env S o with
      | none => rw [hs] at hone; simp at hone
      | some vs =>
        obtain ⟨v, S1⟩ := vs
        rw [hs] at hone
        simp only [Bool.and_eq_true] at hone
        obtain rfl := veq_eq hone.1
        obtain rfl := step_Q hq hs (beq0 hone.2)
        exact fin _ hs j h.stg hpre' (.inl rfl) hnseq
  | false =>
    have hsq : i ∈ seqOf ops ord := by
      unfold seqOf
      rw [List.mem_filter]
      exact ⟨pf.mem i hilt, isSeq_of ho hq⟩
    obtain ⟨ki, hki⟩ := List.getElem?_of_mem hsq
    have hkij : j ≤ ki := by
      rcases Nat.lt_or_ge ki j with hlt | hge
      · exact absurd (h.pre ki i hlt hki) hni
      · exact hge
    cases hf : isF o with
    | false =>
      have : ki = j := by
        rcases Nat.lt_or_ge j ki with hlt | hge
        · exfalso
          have hjl : j < (seqOf ops ord).length := by have := (List.getElem?_eq_some_iff.1 hki).1; omega
          have hs : (seqOf ops ord)[j]? = some ((seqOf ops ord)[j]'hjl) := List.getElem?_eq_getElem hjl
          have hb := pf.eff i o ho hq hf _ (List.getElem_mem _) (pf.seq_lt hs hki hlt)
          have := hJ3 j _ hs hb
          omega
        · omega
      subst this
      obtain ⟨c1, c2⟩ := tf.seqAt pf.nodup hki ht hti
      have hS : t.S = S := by have := h.stg; rw [c1] at this; exact Option.some.inj this
      subst hS
      refine fin t.S' hst (ki + 1) c2 (fun k s hk hks => ?_) (.inr ⟨rfl, hki⟩) (fun k hk => by rw [pf.seq_inj hk hki]; omega)
      rcases Nat.lt_or_ge k ki with hlt | hge
      · exact hpre' k s hlt hks
      · obtain rfl : k = ki := by omega
        rw [hki] at hks; injection hks with hks; subst hks
        exact (in_set hil).2 (.inl rfl)
    | true =>
      -- a new variable
      obtain ⟨dst, op, type, pos, after, guard⟩ := o
      unfold isF at hf
      split at hf
      case h_2 => cases hf
      rename_i e hop hgd
      simp only at hop hgd
      subst hop hgd
      unfold stepOp at hst
      simp only [want] at hst
      cases ha : aop P t.S (opd t.env) ⟨dst, .alloc e, type, pos, after, none⟩ with
      | none => rw [ha] at hst; simp at hst
      | some out =>
        rw [ha] at hst
        simp only [aop] at ha
        split at ha
        case h_2 => cases ha
        rename_i z hz
        cases hp : plain z with
        | false => rw [hp] at ha; simp at ha
        | true =>
          rw [hp] at ha
          obtain ⟨v2, S2, h1, rfl⟩ := outVS_some ha
          simp only [Option.some.injEq, Prod.mk.injEq] at hst
          obtain ⟨rfl, rfl⟩ := hst
          unfold alc at h1
          cases hone : z.cells.toList.all (·.oneCell') with
          | false => rw [hone] at h1; simp at h1
          | true =>
            rw [hone] at h1
            simp only [cond_true, Option.some.injEq, Prod.mk.injEq] at h1
            obtain ⟨e1, e2⟩ := h1
            unfold wpOp
            rw [ho]
            simp only [Region.wanted, if_true]
            left
            have hrun : (execOp a.eval ⟨dst, .alloc e, type, pos, after, none⟩).run P w = .ok (.value (.pointer (some ⟨w.heap.size, 0, none⟩))) (w.alloc (.cells z.cells e)) := by
              simp [execOp, Instr.alloc, run_zeroOf hz, newVar, newRow, newObj, Sem.run]
            unfold Oper.wp
            rw [hrun]
            simp only [Oper.upon]
            have hj := Fr.junk h.fr.rel (.cells z.cells e)
            refine hK j S r _ _ ⟨by simp [h.lsz], h.stg, h.fr.trans hj, hdown, hpre', ?_, ?_, ?_, by rw [put_size]; exact h.tsz, by rw [put_defers]; exact h.dfr⟩
            · intro k s hk hks hin
              rw [in_set hil] at hin
              by_cases hsi : s = i
              · subst hsi
                refine ⟨t, ht, hti, ⟨_, ho, rfl⟩, e, z, w.heap.size, hp, hone, e1.symm, e2.symm, by rw [World.size_alloc]; omega, ⟨h.fr.size, fun p hp => by have := (h.fr.rel.gl p hp).1; omega⟩, fun how => by have := h.fr.rel.owned_lt how; omega, heap_new' w _, fun x hx hlt => ?_⟩
                rw [hti, hdst] at hx
                rw [put_size] at hlt
                exact (put_get a dst _ hlt).1 hx
              · obtain ⟨u, hu, hui, hof, hpend⟩ := h.pend k s hk hks (hin.resolve_left hsi)
                refine ⟨u, hu, hui, hof, hpend.keep hj (fun x hx => ?_) (put_size _ _ _)⟩
                have hd := hother u hu (fun e => hsi (hui.symm.trans e)) x hx
                by_cases hlt : x < a.tmps.size
                · exact (put_get a dst _ hlt).2 hd
                · have hge : a.tmps.size ≤ x := Nat.le_of_not_lt hlt
                  rw [Array.getElem?_eq_none (by rw [put_size]; exact hge), Array.getElem?_eq_none hge]
            · intro u hu hin hk x hx hlt
              rw [put_size] at hlt
              rw [in_set hil] at hin
              by_cases hui : u.i = i
              · exfalso
                have := hk ki (by rw [hui]; exact hki)
                omega
              · obtain ⟨v2, g1, g2⟩ := h.vals u hu (hin.resolve_left hui) hk x hx hlt
                exact ⟨v2, by rw [(put_get a dst _ hlt).2 (hother u hu hui x hx)]; exact g1, g2⟩
            · intro x hx v hv
              obtain ⟨v2, g1, g2⟩ := h.olds x (fun q hq => hx q ((in_set hil).2 (.inr hq))) v hv
              have hlt := (Array.getElem?_eq_some_iff.1 g1).1
              have hd : dst ≠ some x := fun hd => hx i ((in_set hil).2 (.inl rfl)) (hdst.trans hd)
              exact ⟨v2, by rw [(put_get a dst _ hlt).2 hd]; exact g1, g2⟩
theorem count_set {l : Array Bool} {i : Nat} (hi : i < l.size) (hn : ¬ In l i) : (l.setIfInBounds i true).toList.count true = l.toList.count true + 1 := by
  have hf : l.toList[i]'(by simpa using hi) = false := by
    unfold In at hn
    simp only [Array.getD_eq_getD_getElem?, Array.getElem?_eq_getElem hi, Option.getD_some] at hn
    simpa using hn
  rw [Array.toList_setIfInBounds, List.count_set (by simpa using hi), hf]
  simp
/-- Every order. -/
theorem draw_any (hcall : CallOk P call) (pf : PF ops b ord) (tf : TF P call ops ord env0 S0 T env' S' 0) (hrc : ∀ t ∈ T, recheck P call ops b (seqOf ops ord) (stages ops S0 T) t = true) (hsz : env0.sz = a0.tmps.size) {Q : Exit → Act → World → Prop}
    (hQ : ∀ r a w, Fr r0 S0 w0 r S' w → EnvR r env' a.tmps → a.defers = a0.defers → Q .normal a w) : ∀ (fuel : Nat) (l : Array Bool) {j : Nat} {S : St} {r : Ren} {a : Act} {w : World}, fuel + l.toList.count true = ops.size →
      Inv P ops b ord T env0 r0 S0 w0 a0 l j S r a w → wpAny P .any ops Q fuel l a w := by
  have done : ∀ (l : Array Bool) {j : Nat} {S : St} {r : Ren} {a : Act} {w : World}, (∀ i, i < ops.size → In l i) → Inv P ops b ord T env0 r0 S0 w0 a0 l j S r a w → Q .normal a w := fun l {j S r a w} hall h => by
    obtain ⟨j', S1, r1, hj', h1⟩ := h.advTo pf tf (seqOf ops ord).length (fun k s _ hs => hall s (pf.lt s (List.mem_filter.1 (List.mem_of_getElem? hs)).1)) (Nat.le_refl _) (seqOf ops ord).length j (by omega)
    have hlenT : (T.filter fun t => isSeq ops t.i).length = (seqOf ops ord).length := by rw [← tf.seqIdx, List.length_map]
    have hjl : j' = (seqOf ops ord).length := by
      have h2 := (List.getElem?_eq_some_iff.1 h1.stg).1
      unfold stages at h2
      simp only [List.length_cons, List.length_map, hlenT] at h2
      omega
    have hS : S1 = S' := by
      have h2 := tf.last
      rw [hlenT, ← hjl, h1.stg] at h2
      exact Option.some.inj h2
    subst hS
    refine hQ r1 a w h1.fr ⟨by rw [tf.szL, hsz, h1.tsz], fun x v hv => ?_⟩ h1.dfr
    rcases tf.envL x v hv with ⟨u, g1, g2, g3, g4⟩ | ⟨g1, g2⟩
    · have hui : u.i < ops.size := pf.lt _ (by rw [← tf.idx]; exact List.mem_map_of_mem g1)
      obtain ⟨v', q1, q2⟩ := h1.vals u g1 (hall u.i hui) (fun k hk => by rw [hjl]; exact (List.getElem?_eq_some_iff.1 hk).1) x g2 (by rw [h1.tsz, ← hsz]; exact g4)
      exact ⟨v', q1, by rw [g3]; exact q2⟩
    · refine h1.olds x (fun i hi hd => ?_) v g2
      have hilt : i < ops.size := by
        unfold In at hi
        rw [← h1.lsz]
        rcases Nat.lt_or_ge i l.size with hlt | hge
        · exact hlt
        · simp [Array.getD_eq_getD_getElem?, Array.getElem?_eq_none hge] at hi
      obtain ⟨u, hu, hui⟩ := tf.entry (pf.mem i hilt)
      exact g1 u hu (by rw [hui]; exact hd)
  have ready : ∀ (l : Array Bool), l.size = ops.size → Region.ready .any ops l = [] → ∀ i, i < ops.size → In l i := fun l hls hr => by
    have key : ∀ m i, i < ops.size → posOf ord i = m → In l i := by
      intro m
      induction m using Nat.strongRecOn with
      | _ m ih =>
        intro i hi hp
        rcases Classical.em (In l i) with h | h
        · exact h
        · exfalso
          have : i ∈ Region.ready .any ops l := by
            unfold Region.ready
            rw [List.mem_filter]
            refine ⟨List.mem_range.2 hi, ?_⟩
            simp only [Bool.and_eq_true, Bool.not_eq_true']
            refine ⟨?_, ?_⟩
            · unfold In at h
              simp only [Array.getD_eq_getD_getElem?] at h ⊢
              rw [Array.getElem?_eq_getElem (by rw [hls]; exact hi)] at h ⊢
              simpa using h
            · rw [Array.getElem?_eq_getElem hi]
              simp only [Option.map_some, Option.getD_some]
              rw [Array.all_eq_true']
              intro e he
              cases hb : Region.binds .any e with
              | false => rfl
              | true =>
                obtain ⟨q1, q2⟩ := pf.edge i _ (Array.getElem?_eq_getElem hi) e he hb
                have := ih (posOf ord e.on) (by omega) e.on q1 rfl
                simp only [Bool.not_true, Bool.false_or]
                exact this
          rw [hr] at this
          cases this
    exact fun i hi => key _ i hi rfl
  intro fuel
  induction fuel with
  | zero =>
    intro l j S r a w hc h
    have hall : ∀ i, i < ops.size → In l i := fun i hi => by
      have hl : l.toList.count true = l.toList.length := by rw [Array.length_toList, h.lsz]; omega
      have := List.count_eq_length.1 hl
      unfold In
      have hi' : i < l.size := by rw [h.lsz]; exact hi
      simp only [Array.getD_eq_getD_getElem?, Array.getElem?_eq_getElem hi', Option.getD_some]
      exact (this _ (by rw [← Array.getElem_toList hi']; exact List.getElem_mem _)).symm
    refine ⟨?_, done l hall h⟩
    unfold Region.ready
    rw [List.filter_eq_nil_iff]
    intro i hi
    have hi := hall i (List.mem_range.1 hi)
    unfold In at hi
    simp only [Array.getD_eq_getD_getElem?] at hi ⊢
    rcases Nat.lt_or_ge i l.size with hlt | hge
    · rw [Array.getElem?_eq_getElem hlt] at hi ⊢
      simp only [Option.getD_some] at hi ⊢
      simp [hi]
    · simp [Array.getElem?_eq_none hge] at hi
  | succ fuel ih =>
    intro l j S r a w hc h
    refine ⟨fun hr => done l (ready l h.lsz hr) h, fun i hi => ?_⟩
    refine h.exec hcall pf tf hrc hsz hi fun j' S1 r1 a1 w1 h1 => ih _ ?_ h1
    have hilt : i < ops.size ∧ ¬ In l i := by
      unfold Region.ready at hi
      rw [List.mem_filter] at hi
      obtain ⟨g1, g2⟩ := hi
      have hlt := List.mem_range.1 g1
      refine ⟨hlt, fun hin => ?_⟩
      simp only [Bool.and_eq_true, Bool.not_eq_true'] at g2
      unfold In at hin
      simp only [Array.getD_eq_getD_getElem?] at hin g2
      rw [Array.getElem?_eq_getElem (by rw [h.lsz]; exact hlt)] at hin g2
      simp only [Option.getD_some] at hin g2
      rw [hin] at g2
      exact absurd g2.1 (by simp)
    rw [count_set (by rw [h.lsz]; exact hilt.1) hilt.2]
    omega
theorem evDraw_wp (hm : P.follows .mixedOrders = true) (hcall : CallOk P call) {id : Nat} {env env' : Env} {S S' : St} (he : evDraw P call ops env S = some (env', S')) {r : Ren} {a : Act} {w : World} (hr : Rel r S w) (henv : EnvR r env a.tmps) {Q : Exit → Act → World → Prop}
    (hQ : ∀ r' a' w', Fr r S w r' S' w' → EnvR r' env' a'.tmps → a'.defers = a.defers → Q .normal a' w') : (Code.region id ops true).wp P Q a w := by
  unfold evDraw at he
  cases hp : planOk ops (masks ops) (ordOf ops) with
  | false => rw [hp] at he; simp at he
  | true =>
    rw [hp] at he
    simp only [cond_true] at he
    cases hT : runT P call ops (ordOf ops) 0 env S with
    | none => rw [hT] at he; simp at he
    | some q =>
      obtain ⟨T, e1, s1⟩ := q
      rw [hT] at he
      simp only at he
      cases hrc : T.all (recheck P call ops (masks ops) (seqOf ops (ordOf ops)) (stages ops S T)) with
      | false => rw [hrc] at he; simp at he
      | true =>
        rw [hrc] at he
        simp only [cond_true, Option.some.injEq, Prod.mk.injEq] at he
        obtain ⟨rfl, rfl⟩ := he
        have pf := PF.of hp
        have tf := TF.of hT
        have hd := Fr.drew hr
        refine wp_region_any hm (draw_any (r0 := r) (S0 := S) (w0 := w.drew) (a0 := a) hcall pf tf (fun t ht => List.all_eq_true.1 hrc t ht) henv.sz (fun r' a' w' f1 f2 f3 => hQ r' a' w' (hd.trans f1) f2 f3) ops.size _ (j := 0) (S := S) (r := r) (by simp [List.count_replicate]) ?_)
        have hno : ∀ i, ¬ In (Array.replicate ops.size false) i := fun i h => by
          unfold In at h
          simp only [Array.getD_eq_getD_getElem?] at h
          rw [Array.getElem?_replicate] at h
          split at h <;> simp at h
        exact ⟨by simp, rfl, Fr.refl hd.rel, fun i k _ _ h => absurd h (hno i), fun k s h => by omega, fun k s _ _ h => absurd h (hno s), fun t _ h => absurd h (hno t.i), fun x _ v hv => henv.at_ x v hv, rfl, rfl⟩
end
end Go.Proofs.YtcandpiafgicbaaGreatDoor.Ev
