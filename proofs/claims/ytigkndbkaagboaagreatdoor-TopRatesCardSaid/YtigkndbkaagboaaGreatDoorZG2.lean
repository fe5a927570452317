/- The evaluator: a region that draws its order: every order leads to the same. -/
import Derived.Test.YtigkndbkaagboaaGreatDoorZG1
import Derived.Deep.LoopGhost
import Derived.Laws.AppendOwn
section
namespace Go.Proofs.YtigkndbkaagboaaGreatDoor.Ev
open Go hiding Obj
set_option linter.unusedVariables false
set_option linter.unusedSimpArgs false
set_option linter.unusedSectionVars false
variable [Gl]
abbrev In (l : Array Bool) (i : Nat) : Prop := l.getD i false = true
section
variable {P : Program}
/-- A new variable that lies ready. -/
noncomputable def Pend (P : Program) (ops : Array Oper) (w0 : World) (r : Ren) (S : St) (t : TE) (a : Act) (w : World) : Prop :=
  ∃ (e : TypeId) (z : Value) (bf : Nat), plain z = true ∧ z.cells.toList.all (·.oneCell') = true ∧ t.v = .pointer (some ⟨t.S.next, 0, none⟩) ∧ t.S' = t.S.new (.cells z.cells.toList e 0) ∧ bf < w.heap.size ∧ (w0.heap.size ≤ bf ∧ ∀ p ∈ Gl.cells, p.1 ≠ bf) ∧ ¬ Owned r S bf ∧
    w.heap[bf]? = some (.cells z.cells e (0, 0)) ∧ ∀ x, dstOf ops t.i = some x → x < a.tmps.size → a.tmps[x]? = some (.pointer (some ⟨bf, 0, none⟩))
structure Inv (P : Program) (ops : Array Oper) (b ord : List Nat) (T : List TE) (env0 : Env) (r0 : Ren) (S0 : St) (w0 : World) (a0 : Act) (l : Array Bool) (j : Nat) (S : St) (r : Ren) (a : Act) (w : World) : Prop where
  lsz : l.size = ops.size
  stg : (stages ops S0 T)[j]? = some S
  fr : Fr r0 S0 w0 r S w
  down : ∀ i k, i < ops.size → k < ops.size → In l i → bit b i k = true → In l k
  pre : ∀ (k s : Nat), k < j → (seqOf ops ord)[k]? = some s → In l s
  pend : ∀ (k s : Nat), j ≤ k → (seqOf ops ord)[k]? = some s → In l s → ∃ t ∈ T, t.i = s ∧ (∃ o, ops[s]? = some o ∧ isF o = true) ∧ Pend P ops w0 r S t a w
  vals : ∀ t ∈ T, In l t.i → (∀ k, (seqOf ops ord)[k]? = some t.i → k < j) → ∀ x, dstOf ops t.i = some x → x < a.tmps.size → ∃ v', a.tmps[x]? = some v' ∧ VR r t.v v'
  olds : ∀ x, (∀ i, In l i → dstOf ops i ≠ some x) → ∀ v, env0.at x = some v → ∃ v', a.tmps[x]? = some v' ∧ VR r v v'
  tsz : a.tmps.size = a0.tmps.size
  dfr : a.defers = a0.defers
variable {call : CallF} {ops : Array Oper} {b ord : List Nat} {T : List TE} {env0 env' : Env} {r0 : Ren} {S0 S' : St} {w0 : World} {a0 : Act}
theorem TF.seqIdx (h : TF P call ops ord env0 S0 T env' S' 0) : (T.filter fun t => isSeq ops t.i).map (·.i) = seqOf ops ord := by
  unfold seqOf
  rw [← h.idx, List.filter_map]
  rfl
theorem TF.uniq (h : TF P call ops ord env0 S0 T env' S' 0) (hn : ord.Nodup) {t u : TE} (ht : t ∈ T) (hu : u ∈ T) (e : t.i = u.i) : t = u := by
  obtain ⟨i, hi⟩ := List.getElem?_of_mem ht
  obtain ⟨j, hj⟩ := List.getElem?_of_mem hu
  have h1 : ord[i]? = some t.i := by rw [← h.idx]; simp [hi]
  have h2 : ord[j]? = some u.i := by rw [← h.idx]; simp [hj]
  obtain ⟨hi', e1⟩ := List.getElem?_eq_some_iff.1 h1
  obtain ⟨hj', e2⟩ := List.getElem?_eq_some_iff.1 h2
  have : i = j := by
    have q1 := hn.idxOf_getElem i hi'
    have q2 := hn.idxOf_getElem j hj'
    rw [e1] at q1
    rw [e2, ← e] at q2
    exact q1.symm.trans q2
  subst this
  rw [hi] at hj
  exact Option.some.inj hj
theorem TF.entry (h : TF P call ops ord env0 S0 T env' S' 0) {i : Nat} (hi : i ∈ ord) : ∃ t ∈ T, t.i = i := by
  rw [← h.idx] at hi
  obtain ⟨t, ht, e⟩ := List.mem_map.1 hi
  exact ⟨t, ht, e⟩
theorem TF.seqAt (h : TF P call ops ord env0 S0 T env' S' 0) (hn : ord.Nodup) {j s : Nat} (hj : (seqOf ops ord)[j]? = some s) {t : TE} (ht : t ∈ T) (e : t.i = s) : (stages ops S0 T)[j]? = some t.S ∧ (stages ops S0 T)[j + 1]? = some t.S' := by
  rw [← h.seqIdx] at hj
  rw [List.getElem?_map] at hj
  cases hq : (T.filter fun t => isSeq ops t.i)[j]? with
  | none => rw [hq] at hj; simp at hj
  | some u =>
    rw [hq] at hj
    simp only [Option.map_some, Option.some.injEq] at hj
    have hu : u ∈ T := (List.mem_filter.1 (List.mem_of_getElem? hq)).1
    have := h.uniq hn ht hu (e.trans hj.symm)
    subst this
    exact h.chain j t hq
theorem Pend.keep {r r' : Ren} {S S1 : St} {t : TE} {a a' : Act} {w w' : World} (h : Pend P ops w0 r S t a w) (hf : Fr r S w r' S1 w') (ha : ∀ x, dstOf ops t.i = some x → a'.tmps[x]? = a.tmps[x]?) (hs : a'.tmps.size = a.tmps.size) : Pend P ops w0 r' S1 t a' w' := by
  obtain ⟨e, z, bf, h1, h2, h3, h4, h5, h6, h7, h8, h9⟩ := h
  refine ⟨e, z, bf, h1, h2, h3, h4, Nat.lt_of_lt_of_le h5 hf.size, h6, fun ho => ?_, ?_, fun x hx hlt => ?_⟩
  · rcases hf.own bf ho with g | g
    · exact h7 g
    · omega
  · rw [hf.kept bf h5 h7]; exact h8
  · rw [ha x hx]; exact h9 x hx (by rw [← hs]; exact hlt)
/-- A new variable that lies ready is counted. -/
theorem Inv.adv (pf : PF ops b ord) (tf : TF P call ops ord env0 S0 T env' S' 0) {l : Array Bool} {j : Nat} {S : St} {r : Ren} {a : Act} {w : World} (h : Inv P ops b ord T env0 r0 S0 w0 a0 l j S r a w) {s : Nat} (hs : (seqOf ops ord)[j]? = some s) (hl : In l s) :
    ∃ S1 r1, Inv P ops b ord T env0 r0 S0 w0 a0 l (j + 1) S1 r1 a w := by
  obtain ⟨t, ht, hti, ⟨o, ho, hof⟩, e, z, bf, h1, h2, h3, h4, h5, h6, h7, h8, h9⟩ := h.pend j s (Nat.le_refl _) hs hl
  obtain ⟨c1, c2⟩ := tf.seqAt pf.nodup hs ht hti
  have hS : t.S = S := by have := h.stg; rw [c1] at this; exact Option.some.inj this
  subst hS
  have hz : VRs r z.cells.toList z.cells.toList := (VR.pl h1).cells
  obtain ⟨ha1, ha2⟩ := h.fr.rel.adopt (sz := 0) (e := e) (cs' := z.cells.toList) h8 h7 h6.2 hz (hz.one h2)
  rw [← h4] at ha1 ha2
  have hn := h.fr.rel.n
  have hle : r.le (r.ext t.S.next bf 0 0) := r.le_ext (by omega) bf 0 0
  refine ⟨t.S', r.ext t.S.next bf 0 0, h.lsz, c2, ?_, h.down, ?_, ?_, ?_, ?_, h.tsz, h.dfr⟩
  · exact { le := Ren.le_trans h.fr.le hle, rel := ha1, size := h.fr.size, kept := h.fr.kept, os := h.fr.os, tape := h.fr.tape, output := h.fr.output
            own := fun q hq => by
              rcases ha2 q hq with g | rfl
              · exact h.fr.own q g
              · exact .inr h6.1 }
  · intro k s' hk hs'
    rcases Nat.lt_or_ge k j with hlt | hge
    · exact h.pre k s' hlt hs'
    · obtain rfl : k = j := by omega
      rw [hs] at hs'; injection hs' with hs'; subst hs'; exact hl
  · intro k s' hk hs' hl'
    exfalso
    obtain ⟨t', _, _, ⟨o', ho', hof'⟩, _⟩ := h.pend k s' (by omega) hs' hl'
    have hmem : ∀ {q x : Nat} {p : Oper}, (seqOf ops ord)[q]? = some x → ops[x]? = some p → isF p = true → x ∈ (seqOf ops ord).filter fun i => match ops[i]? with | some o => isF o | none => false := fun hq hx hp => by
      rw [List.mem_filter]
      exact ⟨List.mem_of_getElem? hq, by rw [hx]; exact hp⟩
    have m1 := hmem hs ho hof
    have m2 := hmem hs' ho' hof'
    have hne : s ≠ s' := fun e => by
      subst e
      have := pf.seq_inj hs hs'
      omega
    have := pf.one
    generalize ((seqOf ops ord).filter fun i => match ops[i]? with | some o => isF o | none => false) = L at m1 m2 this
    match L, this with
    | [], _ => cases m1
    | [x], _ =>
      simp only [List.mem_singleton] at m1 m2
      exact hne (m1.trans m2.symm)
  · intro u hu hlu hk x hx hlt
    by_cases hus : u.i = s
    · have : u = t := tf.uniq pf.nodup hu ht (hus.trans hti.symm)
      subst this
      refine ⟨_, h9 x hx hlt, ?_⟩
      rw [h3]
      exact VR.newP h.fr.rel _ _
    · obtain ⟨v', g1, g2⟩ := h.vals u hu hlu (fun k hk' => by
        have := hk k hk'
        rcases Nat.lt_or_ge k j with q | q
        · exact q
        · obtain rfl : k = j := by omega
          rw [hs] at hk'
          exact absurd (Option.some.inj hk').symm hus) x hx hlt
      exact ⟨v', g1, g2.mono hle⟩
  · intro x hx v hv
    obtain ⟨v', g1, g2⟩ := h.olds x hx v hv
    exact ⟨v', g1, g2.mono hle⟩
theorem Inv.advTo (pf : PF ops b ord) (tf : TF P call ops ord env0 S0 T env' S' 0) {l : Array Bool} {a : Act} {w : World} (J : Nat) (hJ : ∀ (k s : Nat), k < J → (seqOf ops ord)[k]? = some s → In l s) (hlen : J ≤ (seqOf ops ord).length) :
    ∀ (d j : Nat) {S : St} {r : Ren}, J ≤ j + d → Inv P ops b ord T env0 r0 S0 w0 a0 l j S r a w → ∃ j' S1 r1, J ≤ j' ∧ Inv P ops b ord T env0 r0 S0 w0 a0 l j' S1 r1 a w
  | 0, j, S, r, hd, h => ⟨j, S, r, hd, h⟩
  | d + 1, j, S, r, hd, h => by
    rcases Nat.lt_or_ge j J with hlt | hge
    · have hs : (seqOf ops ord)[j]? = some (seqOf ops ord)[j] := List.getElem?_eq_getElem (by omega)
      obtain ⟨S1, r1, h1⟩ := h.adv pf tf hs (hJ j _ hlt hs)
      exact Inv.advTo pf tf J hJ hlen d (j + 1) (by omega) h1
    · exact ⟨j, S, r, hge, h⟩
theorem in_set {l : Array Bool} {i k : Nat} (hi : i < l.size) : In (l.setIfInBounds i true) k ↔ k = i ∨ In l k := by
  unfold In
  simp only [Array.getD_eq_getD_getElem?]
  rw [Array.getElem?_setIfInBounds]
  by_cases h : i = k
  · subst h; simp [hi]
  · simp only [h, if_false]
    constructor
    · exact .inr
    · rintro (rfl | h')
      · exact absurd rfl h
      · exact h'
/-- What stands in the slots that an operation looks at. -/
theorem Inv.look (pf : PF ops b ord) (tf : TF P call ops ord env0 S0 T env' S' 0) {l : Array Bool} {j : Nat} {S : St} {r : Ren} {a : Act} {w : World} (h : Inv P ops b ord T env0 r0 S0 w0 a0 l j S r a w) (hsz : env0.sz = a0.tmps.size) {i : Nat} {o : Oper} (ho : ops[i]? = some o) (hni : ¬ In l i)
    (hp : ∀ k, k < ops.size → bit b i k = true → In l k) (hj : ∀ (k s : Nat), (seqOf ops ord)[k]? = some s → bit b i s = true → k < j) {t : TE} (ht : t ∈ T) (hti : t.i = i) :
    ∀ x, x ∈ reads ops o → ∀ v, t.env.at x = some v → ∃ v', a.tmps[x]? = some v' ∧ VR r v v' := by
  intro x hx v hv
  obtain ⟨k, hk⟩ := List.getElem?_of_mem ht
  have hki : ord[k]? = some i := by rw [← tf.idx, ← hti]; simp [hk]
  have hposi : posOf ord i = k := by
    obtain ⟨h1, h2⟩ := List.getElem?_eq_some_iff.1 hki
    unfold posOf
    rw [← h2, pf.nodup.idxOf_getElem k h1]
  have hidx : ∀ {m : Nat} {u : TE}, T[m]? = some u → posOf ord u.i = m ∧ u.i ∈ ord := fun {m u} hu => by
    have h0 : ord[m]? = some u.i := by rw [← tf.idx]; simp [hu]
    obtain ⟨h1, h2⟩ := List.getElem?_eq_some_iff.1 h0
    refine ⟨?_, List.mem_of_getElem? h0⟩
    unfold posOf
    rw [← h2, pf.nodup.idxOf_getElem m h1]
  have hop : ∀ {q : Nat} {d : Tmp}, dstOf ops q = some d → ∃ p, ops[q]? = some p ∧ p.dst = some d := fun {q d} hq => by
    unfold dstOf at hq
    cases hp : ops[q]? with
    | none => rw [hp] at hq; simp at hq
    | some p => rw [hp] at hq; exact ⟨p, rfl, by simpa using hq⟩
  have hilt : i < ops.size := (Array.getElem?_eq_some_iff.1 ho).1
  rcases tf.env k t hk x v hv with ⟨m, u, h1, h2, h3, h4, h5⟩ | ⟨h1, h2⟩
  · obtain ⟨hpu, humem⟩ := hidx h2
    obtain ⟨p, hp1, hp2⟩ := hop h3
    have hult := pf.lt _ humem
    rcases pf.rds i u.i o p x ho hp1 hp2 hx with q | q | q
    · rw [← q] at hpu; omega
    · have hin := hp u.i hult q
      obtain ⟨v', g1, g2⟩ := h.vals u (List.mem_of_getElem? h2) hin (fun k' hk' => hj k' _ hk' q) x h3 (by rw [h.tsz, ← hsz]; exact h5)
      exact ⟨v', g1, by rw [h4]; exact g2⟩
    · have := (pf.mask u.i i p hp1 hilt q).2
      omega
  · refine h.olds x (fun q hq hdq => ?_) v h2
    obtain ⟨p, hp1, hp2⟩ := hop hdq
    have hqlt : q < ops.size := (Array.getElem?_eq_some_iff.1 hp1).1
    obtain ⟨u, hu, hui⟩ := tf.entry (pf.mem q hqlt)
    obtain ⟨m, hm⟩ := List.getElem?_of_mem hu
    obtain ⟨hpu, _⟩ := hidx hm
    rw [hui] at hpu
    rcases pf.rds i q o p x ho hp1 hp2 hx with e | e | e
    · subst e; exact hni hq
    · have := (pf.mask i q o ho hqlt e).2
      refine h1 m u (by omega) hm ?_
      rw [hui]; exact hdq
    · exact hni (h.down q i hqlt hilt hq e)
theorem isSeq_of {i : Nat} {o : Oper} (ho : ops[i]? = some o) (hq : isQ o.op = false) : isSeq ops i = true := by simp [isSeq, ho, hq]
theorem put_defers (a : Act) (d : Option Tmp) (v : Value) : (a.put d v).defers = a.defers := by cases d <;> rfl
/-- One more operation. -/
theorem Inv.exec (hcall : CallOk P call) (pf : PF ops b ord) (tf : TF P call ops ord env0 S0 T env' S' 0) (hrc : ∀ t ∈ T, recheck P call ops b (seqOf ops ord) (stages ops S0 T) t = true) (hsz : env0.sz = a0.tmps.size) {l : Array Bool} {j0 : Nat} {Sj : St} {rj : Ren} {a : Act} {w : World}
    (h0 : Inv P ops b ord T env0 r0 S0 w0 a0 l j0 Sj rj a w) {i : Nat} (hi : i ∈ Region.ready .any ops l) {Q : Exit → Act → World → Prop} {K : Act → World → Prop}
    (hK : ∀ j S r a' w', Inv P ops b ord T env0 r0 S0 w0 a0 (l.setIfInBounds i true) j S r a' w' → K a' w') : wpOp P ops Q i K a w := by
  -- what is ready
  have hready : i < ops.size ∧ ¬ In l i ∧ ∀ o, ops[i]? = some o → ∀ e ∈ o.after, Region.binds .any e = true → In l e.on := by
    unfold Region.ready at hi
    rw [List.mem_filter] at hi
    obtain ⟨h1, h2⟩ := hi
    simp only [Bool.and_eq_true, Bool.not_eq_true'] at h2
    obtain ⟨h2, h3⟩ := h2
    have hlt := List.mem_range.1 h1
    refine ⟨hlt, fun hin => ?_, fun o ho e he hb => ?_⟩
    · unfold In at hin
      simp only [Array.getD_eq_getD_getElem?] at hin h2
      rw [Array.getElem?_eq_getElem (by rw [h0.lsz]; exact hlt)] at hin h2
      simp only [Option.getD_some] at hin h2
      rw [hin] at h2; cases h2
    · rw [ho] at h3
      simp only [Option.map_some, Option.getD_some] at h3
      rw [Array.all_eq_true'] at h3
      have := h3 e he
      rw [hb] at this
      simp only [Bool.not_true, Bool.false_or] at this
      exact this
  obtain ⟨hilt, hni, hafter⟩ := hready
  obtain ⟨o, ho⟩ : ∃ o, ops[i]? = some o := ⟨ops[i], Array.getElem?_eq_getElem hilt⟩
  have hpred : ∀ k, k < ops.size → bit b i k = true → In l k := fun k hk hb => by
    obtain ⟨⟨e, he, hbi, hek⟩, _⟩ := pf.mask i k o ho hk hb
    have hon := hafter o ho e he hbi
    rcases hek with rfl | hek
    · exact hon
    · exact h0.down e.on k (pf.edge i o ho e he hbi).1 hk hon hek
  have seqlt : ∀ {k s : Nat}, (seqOf ops ord)[k]? = some s → s < ops.size ∧ s ∈ seqOf ops ord ∧ s ∈ ord := fun hk => by
    have hm := List.mem_of_getElem? hk
    have := (List.mem_filter.1 hm).1
    exact ⟨pf.lt _ this, hm, this⟩
  -- so far the others must have come
  obtain ⟨J, hJ1, hJ2, hJ3⟩ : ∃ J, J ≤ (seqOf ops ord).length ∧ (∀ (k s : Nat), k < J → (seqOf ops ord)[k]? = some s → In l s) ∧ (∀ (k s : Nat), (seqOf ops ord)[k]? = some s → bit b i s = true → k < J) := by
    have key : ∀ n, n ≤ (seqOf ops ord).length → ∃ J, J ≤ n ∧ (∀ (k s : Nat), k < J → (seqOf ops ord)[k]? = some s → In l s) ∧ (∀ (k s : Nat), k < n → (seqOf ops ord)[k]? = some s → bit b i s = true → k < J) := by
      intro n
      induction n with
      | zero => exact fun _ => ⟨0, Nat.le_refl _, fun k s hk => by omega, fun k s hk => by omega⟩
      | succ n ih =>
        intro hn
        obtain ⟨J, g1, g2, g3⟩ := ih (by omega)
        have hs : (seqOf ops ord)[n]? = some (seqOf ops ord)[n] := List.getElem?_eq_getElem (by omega)
        by_cases hb : bit b i (seqOf ops ord)[n] = true
        · refine ⟨n + 1, Nat.le_refl _, fun k s hk hks => ?_, fun k s hk _ _ => hk⟩
          obtain ⟨q1, q2, _⟩ := seqlt hks
          rcases Nat.lt_or_ge k n with hlt | hge
          · exact hpred s q1 (pf.pre i o ho _ (List.getElem_mem _) hb s q2 (pf.seq_lt hks hs hlt))
          · obtain rfl : k = n := by omega
            rw [hs] at hks; injection hks with hks; subst hks
            exact hpred _ q1 hb
        · refine ⟨J, by omega, g2, fun k s hk hks hbs => ?_⟩
          rcases Nat.lt_or_ge k n with hlt | hge
          · exact g3 k s hlt hks hbs
          · obtain rfl : k = n := by omega
            rw [hs] at hks; injection hks with hks; subst hks
            exact absurd hbs hb
    obtain ⟨J, g1, g2, g3⟩ := key _ (Nat.le_refl _)
    exact ⟨J, g1, g2, fun k s hk => g3 k s (List.getElem?_eq_some_iff.1 hk).1 hk⟩
  obtain ⟨j, S, r, hjJ, h⟩ := h0.advTo pf tf J hJ2 hJ1 J j0 (by omega)
  obtain ⟨t, ht, hti⟩ := tf.entry (pf.mem i hilt)
  have hlook := h.look pf tf hsz ho hni hpred (fun k s hk hb => Nat.lt_of_lt_of_le (hJ3 k s hk hb) hjJ) ht hti
  obtain ⟨o', ho', hst, hstQ⟩ := tf.step t ht
  rw [hti, ho] at ho'
  obtain rfl : o = o' := Option.some.inj ho'
  have hdst : dstOf ops i = o.dst := by simp [dstOf, ho]
  have hdown : ∀ p k, p < ops.size → k < ops.size → In (l.setIfInBounds i true) p → bit b p k = true → In (l.setIfInBounds i true) k := fun p k hp hk hin hb => by
    have hil : i < l.size := by rw [h0.lsz]; exact hilt
    rw [in_set hil] at hin ⊢
    rcases hin with rfl | hin
    · exact .inr (hpred k hk hb)
    · exact .inr (h0.down p k hp hk hin hb)
  have hil : i < l.size := by rw [h0.lsz]; exact hilt
  have hother : ∀ u ∈ T, u.i ≠ i → ∀ x, dstOf ops u.i = some x → o.dst ≠ some x := fun u hu hne x hx hd => by
    unfold dstOf at hx
    cases hp : ops[u.i]? with
    | none => rw [hp] at hx; simp at hx
    | some p =>
      rw [hp] at hx
      exact hne (pf.dst u.i i p o x hp ho (by simpa using hx) hd)
  -- the step at the state at hand
  have fin : ∀ (S1 : St), stepOp P call ops t.env S o = some (t.v, S1) → ∀ (j1 : Nat), (stages ops S0 T)[j1]? = some S1 → (∀ (k s : Nat), k < j1 → (seqOf ops ord)[k]? = some s → In (l.setIfInBounds i true) s) → (j1 = j ∨ j1 = j + 1 ∧ (seqOf ops ord)[j]? = some i) →
      (∀ (k : Nat), (seqOf ops ord)[k]? = some i → k < j1) → wpOp P ops Q i K a w := fun S1 hs j1 hj1 hpre1 hjj hik => by
    unfold wpOp
    rw [ho]
    simp only
    refine step_wp hcall hs h.fr.rel hlook fun r' v' w' f1 f2 => hK j1 S1 r' _ _ ?_
    refine ⟨by simp [h.lsz], hj1, h.fr.trans f1, hdown, hpre1, ?_, ?_, ?_, by rw [put_size]; exact h.tsz, by rw [put_defers]; exact h.dfr⟩
    · intro k s hk hks hin
      rw [in_set hil] at hin
      rcases hin with rfl | hin
      · have := hik k hks; omega
      · obtain ⟨u, hu, hui, hof, hpend⟩ := h.pend k s (by omega) hks hin
        refine ⟨u, hu, hui, hof, hpend.keep f1 (fun x hx => ?_) (put_size _ _ _)⟩
        have hne : u.i ≠ i := fun e => by rw [hui] at e; subst e; exact hni hin
        have hd := hother u hu hne x hx
        by_cases hlt : x < a.tmps.size
        · exact (put_get a o.dst v' hlt).2 hd
        · have hge : a.tmps.size ≤ x := Nat.le_of_not_lt hlt
          rw [Array.getElem?_eq_none (by rw [put_size]; exact hge), Array.getElem?_eq_none hge]
    · intro u hu hin hk x hx hlt
      rw [put_size] at hlt
      rw [in_set hil] at hin
      by_cases hui : u.i = i
      · have : u = t := tf.uniq pf.nodup hu ht (hui.trans hti.symm)
        subst this
        rw [hui, hdst] at hx
        exact ⟨v', (put_get a o.dst v' hlt).1 hx, f2⟩
      · have hkk : ∀ k, (seqOf ops ord)[k]? = some u.i → k < j := fun k hk' => by
          rcases Nat.lt_or_ge k j with q | q
          · exact q
          · exfalso
            have hkj := hk k hk'
            rcases hjj with rfl | ⟨rfl, hji⟩
            · omega
            · obtain rfl : k = j := by omega
              exact hui (Option.some.inj (hk'.symm.trans hji))
        obtain ⟨v2, g1, g2⟩ := h.vals u hu (hin.resolve_left hui) hkk x hx hlt
        exact ⟨v2, by rw [(put_get a o.dst v' hlt).2 (hother u hu hui x hx)]; exact g1, g2.mono f1.le⟩
    · intro x hx v hv
      obtain ⟨v2, g1, g2⟩ := h.olds x (fun q hq => hx q ((in_set hil).2 (.inr hq))) v hv
      have hlt := (Array.getElem?_eq_some_iff.1 g1).1
      have hd : o.dst ≠ some x := by rw [← hdst]; exact hx i ((in_set hil).2 (.inl rfl))
      exact ⟨v2, by rw [(put_get a o.dst v' hlt).2 hd]; exact g1, g2.mono f1.le⟩
  have hpre' : ∀ (k s : Nat), k < j → (seqOf ops ord)[k]? = some s → In (l.setIfInBounds i true) s := fun k s hk hks => (in_set hil).2 (.inr (h.pre k s hk hks))
  cases hq : isQ o.op with
  | true =>
    have hnseq : ∀ k, (seqOf ops ord)[k]? = some i → k < j := fun k hk => by
      have := (List.mem_filter.1 (List.mem_of_getElem? hk)).2
      simp [isSeq, ho, hq] at this
    cases hN : isN o.op with
    | true => exact fin S (step_N hN hst S) j h.stg hpre' (.inl rfl) hnseq
    | false =>
      have hrct := hrc t ht
      unfold recheck at hrct
      rw [hti, ho] at hrct
      simp only [hq, hN, Bool.not_true, Bool.false_or] at hrct
      have hmem : (S, j) ∈ (stages ops S0 T).zipIdx := by
        rw [List.mem_zipIdx_iff_getElem?]; exact h.stg
      have hone := List.all_eq_true.1 hrct (S, j) hmem
      simp only [Bool.or_eq_true, Bool.not_eq_true'] at hone
      by_cases hown : j = t.k
      · obtain ⟨_, g2⟩ := tf.own t ht
        rw [Nat.sub_zero, ← hown, h.stg] at g2
        have hS : S = t.S := Option.some.inj g2
        have hS' := hstQ hq
        rw [hS'] at hst
        rw [← hS] at hst
        exact fin S hst j h.stg hpre' (.inl rfl) hnseq
      have hnb : Nat.beq j t.k = false := by
        cases hb : Nat.beq j t.k with
        | false => rfl
        | true => exact absurd (beq0 hb) hown
      rw [hnb] at hone
      simp only [Bool.false_eq_true, false_or] at hone
      have hmay : mayBe b (seqOf ops ord) i j = true := by
        unfold mayBe
        rw [List.all_eq_true]
        rintro ⟨s, jj⟩ hs
        rw [List.mem_zipIdx_iff_getElem?] at hs
        simp only at hs ⊢
        obtain ⟨q1, _, _⟩ := seqlt hs
        cases hb : Nat.blt jj j with
        | true =>
          have hlt : jj < j := by simpa [Nat.blt_eq] using hb
          simp only [cond_true, Bool.not_eq_true']
          cases hbi : bit b s i with
          | false => rfl
          | true => exact absurd (h.down s i q1 hilt (h.pre jj s hlt hs) hbi) hni
        | false =>
          simp only [cond_false, Bool.not_eq_true']
          cases hbi : bit b i s with
          | false => rfl
          | true =>
            have hlt := hJ3 jj s hs hbi
            have : Nat.blt jj j = true := by simpa [Nat.blt_eq] using Nat.lt_of_lt_of_le hlt hjJ
            rw [this] at hb; cases hb
      rw [hmay] at hone
      simp only [Bool.true_eq_false, false_or] at hone
      cases hs : stepOp P call ops t.env S o with
      | none => rw [hs] at hone; simp at hone
      | some vs =>
        obtain ⟨v, S1⟩ := vs
        rw [hs] at hone
        simp only [Bool.and_eq_true] at hone
        obtain rfl := veq_eq hone.1
        obtain rfl := step_Q hq hs (beq0 hone.2)
        exact fin _ hs j h.stg hpre' (.inl rfl) hnseq
  | false =>
    have hsq : i ∈ seqOf ops ord := by
      unfold seqOf
      rw [List.mem_filter]
      exact ⟨pf.mem i hilt, isSeq_of ho hq⟩
    obtain ⟨ki, hki⟩ := List.getElem?_of_mem hsq
    have hkij : j ≤ ki := by
      rcases Nat.lt_or_ge ki j with hlt | hge
      · exact absurd (h.pre ki i hlt hki) hni
      · exact hge
    cases hf : isF o with
    | false =>
      have : ki = j := by
        rcases Nat.lt_or_ge j ki with hlt | hge
        · exfalso
          have hjl : j < (seqOf ops ord).length := by have := (List.getElem?_eq_some_iff.1 hki).1; omega
          have hs : (seqOf ops ord)[j]? = some ((seqOf ops ord)[j]'hjl) := List.getElem?_eq_getElem hjl
          have hb := pf.eff i o ho hq hf _ (List.getElem_mem _) (pf.seq_lt hs hki hlt)
          have := hJ3 j _ hs hb
          omega
        · omega
      subst this
      obtain ⟨c1, c2⟩ := tf.seqAt pf.nodup hki ht hti
      have hS : t.S = S := by have := h.stg; rw [c1] at this; exact Option.some.inj this
      subst hS
      refine fin t.S' hst (ki + 1) c2 (fun k s hk hks => ?_) (.inr ⟨rfl, hki⟩) (fun k hk => by rw [pf.seq_inj hk hki]; omega)
      rcases Nat.lt_or_ge k ki with hlt | hge
      · exact hpre' k s hlt hks
      · obtain rfl : k = ki := by omega
        rw [hki] at hks; injection hks with hks; subst hks
        exact (in_set hil).2 (.inl rfl)
    | true =>
      -- a new variable
      obtain ⟨dst, op, type, pos, after, guard⟩ := o
      unfold isF at hf
      split at hf
      case h_2 => cases hf
      rename_i e hop hgd
      simp only at hop hgd
      subst hop hgd
      unfold stepOp at hst
      simp only [want] at hst
      cases ha : aop P t.S (opd t.env) ⟨dst, .alloc e, type, pos, after, none⟩ with
      | none => rw [ha] at hst; simp at hst
      | some out =>
        rw [ha] at hst
        simp only [aop] at ha
        split at ha
        case h_2 => cases ha
        rename_i z hz
        cases hp : plain z with
        | false => rw [hp] at ha; simp at ha
        | true =>
          rw [hp] at ha
          obtain ⟨v2, S2, h1, rfl⟩ := outVS_some ha
          simp only [Option.some.injEq, Prod.mk.injEq] at hst
          obtain ⟨rfl, rfl⟩ := hst
          unfold alc at h1
          cases hone : z.cells.toList.all (·.oneCell') with
          | false => rw [hone] at h1; simp at h1
          | true =>
            rw [hone] at h1
            simp only [cond_true, Option.some.injEq, Prod.mk.injEq] at h1
            obtain ⟨e1, e2⟩ := h1
            unfold wpOp
            rw [ho]
            simp only [Region.wanted, if_true]
            left
            have hrun : (execOp a.eval ⟨dst, .alloc e, type, pos, after, none⟩).run P w = .ok (.value (.pointer (some ⟨w.heap.size, 0, none⟩))) (w.alloc (.cells z.cells e)) := by
              simp [execOp, Instr.alloc, run_zeroOf hz, newVar, newRow, newObj, Sem.run]
            unfold Oper.wp
            rw [hrun]
            simp only [Oper.upon]
            have hj := Fr.junk h.fr.rel (.cells z.cells e)
            refine hK j S r _ _ ⟨by simp [h.lsz], h.stg, h.fr.trans hj, hdown, hpre', ?_, ?_, ?_, by rw [put_size]; exact h.tsz, by rw [put_defers]; exact h.dfr⟩
            · intro k s hk hks hin
              rw [in_set hil] at hin
              by_cases hsi : s = i
              · subst hsi
                refine ⟨t, ht, hti, ⟨_, ho, rfl⟩, e, z, w.heap.size, hp, hone, e1.symm, e2.symm, by rw [World.size_alloc]; omega, ⟨h.fr.size, fun p hp => by have := (h.fr.rel.gl p hp).1; omega⟩, fun how => by have := h.fr.rel.owned_lt how; omega, heap_new' w _, fun x hx hlt => ?_⟩
                rw [hti, hdst] at hx
                rw [put_size] at hlt
                exact (put_get a dst _ hlt).1 hx
              · obtain ⟨u, hu, hui, hof, hpend⟩ := h.pend k s hk hks (hin.resolve_left hsi)
                refine ⟨u, hu, hui, hof, hpend.keep hj (fun x hx => ?_) (put_size _ _ _)⟩
                have hd := hother u hu (fun e => hsi (hui.symm.trans e)) x hx
                by_cases hlt : x < a.tmps.size
                · exact (put_get a dst _ hlt).2 hd
                · have hge : a.tmps.size ≤ x := Nat.le_of_not_lt hlt
                  rw [Array.getElem?_eq_none (by rw [put_size]; exact hge), Array.getElem?_eq_none hge]
            · intro u hu hin hk x hx hlt
              rw [put_size] at hlt
              rw [in_set hil] at hin
              by_cases hui : u.i = i
              · exfalso
                have := hk ki (by rw [hui]; exact hki)
                omega
              · obtain ⟨v2, g1, g2⟩ := h.vals u hu (hin.resolve_left hui) hk x hx hlt
                exact ⟨v2, by rw [(put_get a dst _ hlt).2 (hother u hu hui x hx)]; exact g1, g2⟩
            · intro x hx v hv
              obtain ⟨v2, g1, g2⟩ := h.olds x (fun q hq => hx q ((in_set hil).2 (.inr hq))) v hv
              have hlt := (Array.getElem?_eq_some_iff.1 g1).1
              have hd : dst ≠ some x := fun hd => hx i ((in_set hil).2 (.inl rfl)) (hdst.trans hd)
              exact ⟨v2, by rw [(put_get a dst _ hlt).2 hd]; exact g1, g2⟩
theorem count_set {l : Array Bool} {i : Nat} (hi : i < l.size) (hn : ¬ In l i) : (l.setIfInBounds i true).toList.count true = l.toList.count true + 1 := by
  have hf : l.toList[i]'(by simpa using hi) = false := by
    unfold In at hn
    simp only [Array.getD_eq_getD_getElem?, Array.getElem?_eq_getElem hi, Option.getD_some] at hn
    simpa using hn
  rw [Array.toList_setIfInBounds, List.count_set (by simpa using hi), hf]
  simp
/-- Every order. -/
theorem draw_any (hcall : CallOk P call) (pf : PF ops b ord) (tf : TF P call ops ord env0 S0 T env' S' 0) (hrc : ∀ t ∈ T, recheck P call ops b (seqOf ops ord) (stages ops S0 T) t = true) (hsz : env0.sz = a0.tmps.size) {Q : Exit → Act → World → Prop}
    (hQ : ∀ r a w, Fr r0 S0 w0 r S' w → EnvR r env' a.tmps → a.defers = a0.defers → Q .normal a w) : ∀ (fuel : Nat) (l : Array Bool) {j : Nat} {S : St} {r : Ren} {a : Act} {w : World}, fuel + l.toList.count true = ops.size →
      Inv P ops b ord T env0 r0 S0 w0 a0 l j S r a w → wpAny P .any ops Q fuel l a w := by
  have done : ∀ (l : Array Bool) {j : Nat} {S : St} {r : Ren} {a : Act} {w : World}, (∀ i, i < ops.size → In l i) → Inv P ops b ord T env0 r0 S0 w0 a0 l j S r a w → Q .normal a w := fun l {j S r a w} hall h => by
    obtain ⟨j', S1, r1, hj', h1⟩ := h.advTo pf tf (seqOf ops ord).length (fun k s _ hs => hall s (pf.lt s (List.mem_filter.1 (List.mem_of_getElem? hs)).1)) (Nat.le_refl _) (seqOf ops ord).length j (by omega)
    have hlenT : (T.filter fun t => isSeq ops t.i).length = (seqOf ops ord).length := by rw [← tf.seqIdx, List.length_map]
    have hjl : j' = (seqOf ops ord).length := by
      have h2 := (List.getElem?_eq_some_iff.1 h1.stg).1
      unfold stages at h2
      simp only [List.length_cons, List.length_map, hlenT] at h2
      omega
    have hS : S1 = S' := by
      have h2 := tf.last
      rw [hlenT, ← hjl, h1.stg] at h2
      exact Option.some.inj h2
    subst hS
    refine hQ r1 a w h1.fr ⟨by rw [tf.szL, hsz, h1.tsz], fun x v hv => ?_⟩ h1.dfr
    rcases tf.envL x v hv with ⟨u, g1, g2, g3, g4⟩ | ⟨g1, g2⟩
    · have hui : u.i < ops.size := pf.lt _ (by rw [← tf.idx]; exact List.mem_map_of_mem g1)
      obtain ⟨v', q1, q2⟩ := h1.vals u g1 (hall u.i hui) (fun k hk => by rw [hjl]; exact (List.getElem?_eq_some_iff.1 hk).1) x g2 (by rw [h1.tsz, ← hsz]; exact g4)
      exact ⟨v', q1, by rw [g3]; exact q2⟩
    · refine h1.olds x (fun i hi hd => ?_) v g2
      have hilt : i < ops.size := by
        unfold In at hi
        rw [← h1.lsz]
        rcases Nat.lt_or_ge i l.size with hlt | hge
        · exact hlt
        · simp [Array.getD_eq_getD_getElem?, Array.getElem?_eq_none hge] at hi
      obtain ⟨u, hu, hui⟩ := tf.entry (pf.mem i hilt)
      exact g1 u hu (by rw [hui]; exact hd)
  have ready : ∀ (l : Array Bool), l.size = ops.size → Region.ready .any ops l = [] → ∀ i, i < ops.size → In l i := fun l hls hr => by
    have key : ∀ m i, i < ops.size → posOf ord i = m → In l i := by
      intro m
      induction m using Nat.strongRecOn with
      | _ m ih =>
        intro i hi hp
        rcases Classical.em (In l i) with h | h
        · exact h
        · exfalso
          have : i ∈ Region.ready .any ops l := by
            unfold Region.ready
            rw [List.mem_filter]
            refine ⟨List.mem_range.2 hi, ?_⟩
            simp only [Bool.and_eq_true, Bool.not_eq_true']
            refine ⟨?_, ?_⟩
            · unfold In at h
              simp only [Array.getD_eq_getD_getElem?] at h ⊢
              rw [Array.getElem?_eq_getElem (by rw [hls]; exact hi)] at h ⊢
              simpa using h
            · rw [Array.getElem?_eq_getElem hi]
              simp only [Option.map_some, Option.getD_some]
              rw [Array.all_eq_true']
              intro e he
              cases hb : Region.binds .any e with
              | false => rfl
              | true =>
                obtain ⟨q1, q2⟩ := pf.edge i _ (Array.getElem?_eq_getElem hi) e he hb
                have := ih (posOf ord e.on) (by omega) e.on q1 rfl
                simp only [Bool.not_true, Bool.false_or]
                exact this
          rw [hr] at this
          cases this
    exact fun i hi => key _ i hi rfl
  intro fuel
  induction fuel with
  | zero =>
    intro l j S r a w hc h
    have hall : ∀ i, i < ops.size → In l i := fun i hi => by
      have hl : l.toList.count true = l.toList.length := by rw [Array.length_toList, h.lsz]; omega
      have := List.count_eq_length.1 hl
      unfold In
      have hi' : i < l.size := by rw [h.lsz]; exact hi
      simp only [Array.getD_eq_getD_getElem?, Array.getElem?_eq_getElem hi', Option.getD_some]
      exact (this _ (by rw [← Array.getElem_toList hi']; exact List.getElem_mem _)).symm
    refine ⟨?_, done l hall h⟩
    unfold Region.ready
    rw [List.filter_eq_nil_iff]
    intro i hi
    have hi := hall i (List.mem_range.1 hi)
    unfold In at hi
    simp only [Array.getD_eq_getD_getElem?] at hi ⊢
    rcases Nat.lt_or_ge i l.size with hlt | hge
    · rw [Array.getElem?_eq_getElem hlt] at hi ⊢
      simp only [Option.getD_some] at hi ⊢
      simp [hi]
    · simp [Array.getElem?_eq_none hge] at hi
  | succ fuel ih =>
    intro l j S r a w hc h
    refine ⟨fun hr => done l (ready l h.lsz hr) h, fun i hi => ?_⟩
    refine h.exec hcall pf tf hrc hsz hi fun j' S1 r1 a1 w1 h1 => ih _ ?_ h1
    have hilt : i < ops.size ∧ ¬ In l i := by
      unfold Region.ready at hi
      rw [List.mem_filter] at hi
      obtain ⟨g1, g2⟩ := hi
      have hlt := List.mem_range.1 g1
      refine ⟨hlt, fun hin => ?_⟩
      simp only [Bool.and_eq_true, Bool.not_eq_true'] at g2
      unfold In at hin
      simp only [Array.getD_eq_getD_getElem?] at hin g2
      rw [Array.getElem?_eq_getElem (by rw [h.lsz]; exact hlt)] at hin g2
      simp only [Option.getD_some] at hin g2
      rw [hin] at g2
      exact absurd g2.1 (by simp)
    rw [count_set (by rw [h.lsz]; exact hilt.1) hilt.2]
    omega
theorem evDraw_wp (hm : P.follows .mixedOrders = true) (hcall : CallOk P call) {id : Nat} {env env' : Env} {S S' : St} (he : evDraw P call ops env S = some (env', S')) {r : Ren} {a : Act} {w : World} (hr : Rel r S w) (henv : EnvR r env a.tmps) {Q : Exit → Act → World → Prop}
    (hQ : ∀ r' a' w', Fr r S w r' S' w' → EnvR r' env' a'.tmps → a'.defers = a.defers → Q .normal a' w') : (Code.region id ops true).wp P Q a w := by
  unfold evDraw at he
  cases hp : planOk ops (masks ops) (ordOf ops) with
  | false => rw [hp] at he; simp at he
  | true =>
    rw [hp] at he
    simp only [cond_true] at he
    cases hT : runT P call ops (ordOf ops) 0 env S with
    | none => rw [hT] at he; simp at he
    | some q =>
      obtain ⟨T, e1, s1⟩ := q
      rw [hT] at he
      simp only at he
      cases hrc : T.all (recheck P call ops (masks ops) (seqOf ops (ordOf ops)) (stages ops S T)) with
      | false => rw [hrc] at he; simp at he
      | true =>
        rw [hrc] at he
        simp only [cond_true, Option.some.injEq, Prod.mk.injEq] at he
        obtain ⟨rfl, rfl⟩ := he
        have pf := PF.of hp
        have tf := TF.of hT
        have hd := Fr.drew hr
        refine wp_region_any hm (draw_any (r0 := r) (S0 := S) (w0 := w.drew) (a0 := a) hcall pf tf (fun t ht => List.all_eq_true.1 hrc t ht) henv.sz (fun r' a' w' f1 f2 f3 => hQ r' a' w' (hd.trans f1) f2 f3) ops.size _ (j := 0) (S := S) (r := r) (by simp [List.count_replicate]) ?_)
        have hno : ∀ i, ¬ In (Array.replicate ops.size false) i := fun i h => by
          unfold In at h
          simp only [Array.getD_eq_getD_getElem?] at h
          rw [Array.getElem?_replicate] at h
          split at h <;> simp at h
        exact ⟨by simp, rfl, Fr.refl hd.rel, fun i k _ _ h => absurd h (hno i), fun k s h => by omega, fun k s _ _ h => absurd h (hno s), fun t _ h => absurd h (hno t.i), fun x _ v hv => henv.at_ x v hv, rfl, rfl⟩
end
end Go.Proofs.YtigkndbkaagboaaGreatDoor.Ev
end
section
namespace Go.Proofs.YtigkndbkaagboaaGreatDoor.Ev
open Go hiding Obj
set_option linter.unusedVariables false
set_option linter.unusedSimpArgs false
set_option linter.unusedSectionVars false
variable [Gl]
section
variable {P : Program}
/-- How a piece of code ends. -/
noncomputable def Ex.is : Ex → Exit → Prop
  | .normal, .normal => True
  | .exit i, .exit j => i = j
  | .goto i, .goto j => i = j
  | .ret, .ret => True
  | _, _ => False
noncomputable def PrimOk (P : Program) (pr : Prims) : Prop := ∀ f g, pr f = some g → ∀ args S v S', g args S = some (v, S') → ∀ r w args', Rel r S w → VRs r args args' →
  Calls P f ⟨args'⟩ w fun e w' => ∃ r' v', e = .returned v' ∧ Fr r S w r' S' w' ∧ VR r' v v'
theorem envOf_at : ∀ (args : List Value) (i t : Nat) (v : Value), Tr.get (envOf args i) t = some v → i ≤ t ∧ args[t - i]? = some v
  | [], i, t, v, h => by
    simp only [envOf, Tr.get_nil] at h
    cases h
  | a :: args, i, t, v, h => by
    rcases Tr.get_ins h with ⟨rfl, rfl⟩ | ⟨hne, h⟩
    · simp
    · obtain ⟨h1, h2⟩ := envOf_at args (i + 1) t v h
      refine ⟨by omega, ?_⟩
      rw [show t - i = (t - (i + 1)) + 1 by omega]
      simpa using h2
theorem envOf_rel {r : Ren} {args args' : List Value} (h : VRs r args args') (n : Nat) : EnvR r ⟨envOf args 0, args.length + (n - args.length)⟩ ((⟨args'⟩ : Array Value) ++ Array.replicate (n - (⟨args'⟩ : Array Value).size) undef) := by
  have hl := h.length
  refine ⟨by simp [hl], fun t v hv => ?_⟩
  obtain ⟨_, h2⟩ := envOf_at args 0 t v hv
  obtain ⟨v', h3, h4⟩ := h.get (by simpa using h2)
  have hlt := (List.getElem?_eq_some_iff.1 h3).1
  refine ⟨v', ?_, h4⟩
  rw [Array.getElem?_append_left (by simpa using hlt)]
  simpa using h3
noncomputable def resOne (tmps : Array Value) : ResultVar → Sem Value
  | .tmp t => pure (tmps.getD t undef)
  | .cell a t => do loadVar t (← asAddr (tmps.getD a undef))
theorem resV_sim {r : Ren} {S : St} {w : World} (hr : Rel r S w) {env : Env} {tmps : Array Value} (he : EnvR r env tmps) : ∀ {rs : List ResultVar} {vs : List Value}, resV P S env rs = some vs → ∃ vs', (rs.mapM (resOne tmps)).run P w = .ok vs' w ∧ VRs r vs vs'
  | [], vs, h => by simp only [resV, Option.some.injEq] at h; subst h; exact ⟨[], by simp, .nil⟩
  | .tmp t :: rs, vs, h => by
    unfold resV at h
    split at h
    · rename_i v vs2 h1 h2
      simp only [Option.some.injEq] at h
      subst h
      obtain ⟨v', g1, g2⟩ := he.at_ t v h1
      obtain ⟨vs', g3, g4⟩ := resV_sim hr he h2
      refine ⟨v' :: vs', ?_, .cons g2 g4⟩
      have h0 : (resOne tmps (.tmp t)).run P w = .ok v' w := by simp [resOne, Array.getD_eq_getD_getElem?, g1]
      simp only [List.mapM_cons, Sem.run_bind, h0, Result.andThen_ok, g3, Sem.run_pure]
    · cases h
  | .cell a t :: rs, vs, h => by
    unfold resV at h
    split at h
    · rename_i x h1
      split at h
      · rename_i v vs2 h2 h3
        simp only [Option.some.injEq] at h
        subst h
        obtain ⟨x', g1, g2⟩ := he.at_ a x h1
        obtain ⟨v', g3, g4⟩ := ld_sim (P := P) hr g2 h2
        obtain ⟨vs', g5, g6⟩ := resV_sim hr he h3
        obtain ⟨b, o, rfl⟩ := ld_ptr h2
        have hA : ∃ A, x' = .pointer (some A) := by
          cases g2 with
          | ptr => exact ⟨_, rfl⟩
          | sc _ h => simp [scalar] at h
        obtain ⟨A, rfl⟩ := hA
        simp [Instr.loadAt, Instr.sureAddr] at g3
        refine ⟨v' :: vs', ?_, .cons g4 g6⟩
        have h0 : (resOne tmps (.cell a t)).run P w = .ok v' w := by simp [resOne, Array.getD_eq_getD_getElem?, g1, asAddr, g3]
        simp only [List.mapM_cons, Sem.run_bind, h0, Result.andThen_ok, g5, Sem.run_pure]
      · cases h
    · cases h
theorem results_of {fn : Func} {tmps : Array Value} {w : World} {vs : List Value} (h : (fn.results.toList.mapM (resOne tmps)).run P w = .ok vs w) : (results fn tmps).run P w = .ok (match vs with | [v] => v | vs => .tuple ⟨vs⟩) w := by
  have e : results fn tmps = (do let vs ← fn.results.mapM (resOne tmps); pure (if h : vs.size = 1 then vs[0] else .tuple vs)) := rfl
  rw [e, Array.mapM_eq_mapM_toList]
  simp only [Sem.run_bind, Sem.run_map, h]
  rcases vs with _ | ⟨v, _ | ⟨v2, t⟩⟩ <;> simp
theorem ev_succ (pr : Prims) (n : Nat) : ev P pr (n + 1) = evStep P pr (ev P pr n) := rfl
/-- What evaluation to 'res' promises. -/
noncomputable def Ends (P : Program) (c : Code) (env : Env) (S : St) (res : Ex × Env × St) : Prop :=
  ∀ (r : Ren) (a : Act) (w : World), Rel r S w → EnvR r env a.tmps → a.defers = [] →
    c.wp P (fun e a' w' => res.1.is e ∧ ∃ r', Fr r S w r' res.2.2 w' ∧ EnvR r' res.2.1 a'.tmps ∧ a'.defers = []) a w
theorem callE_ok {pr : Prims} (hpr : PrimOk P pr) {ih : Code → Env → St → Option (Ex × Env × St)} (hih : ∀ c env S res, ih c env S = some res → Ends P c env S res) : CallOk P (callE P pr ih) := by
  intro f args S v S' h r w args' hr ha
  unfold callE at h
  split at h
  · rename_i g hg
    exact hpr f g hg args S v S' h r w args' hr ha
  · split at h
    case h_2 => cases h
    rename_i fn hfn
    split at h
    case h_2 => cases h
    rename_i c hc
    have key : ∀ x env S2, ih c ⟨envOf args 0, args.length + (fn.ntmps - args.length)⟩ S = some (x, env, S2) → (x = .normal ∨ x = .ret) → (match resV P S2 env fn.results.toList with | some [v] => some (v, S2) | some vs => some (.tuple ⟨vs⟩, S2) | none => none) = some (v, S') →
        Calls P f ⟨args'⟩ w fun e w' => ∃ r' v', e = .returned v' ∧ Fr r S w r' S' w' ∧ VR r' v v' := fun x env S2 he hx hres => by
      refine calls_of_wp hfn hc ?_
      refine wp_mono (hih c _ S _ he r _ w hr (envOf_rel ha fn.ntmps) rfl) ?_
      rintro e a' w' ⟨hex, r', f1, f2, f3⟩
      have hfin : ∃ v', (results fn a'.tmps).run P w' = .ok v' w' ∧ VR r' v v' ∧ S2 = S' := by
        cases hrv : resV P S2 env fn.results.toList with
        | none => rw [hrv] at hres; simp at hres
        | some vs =>
          rw [hrv] at hres
          obtain ⟨vs', g1, g2⟩ := resV_sim (P := P) f1.rel f2 hrv
          have hm := results_of g1
          match vs, hres with
          | [x], hres =>
            simp only [Option.some.injEq, Prod.mk.injEq] at hres
            obtain ⟨rfl, rfl⟩ := hres
            obtain ⟨y, rfl, hy⟩ := g2.one'
            exact ⟨y, hm, hy, rfl⟩
          | [], hres =>
            simp only [Option.some.injEq, Prod.mk.injEq] at hres
            obtain ⟨rfl, rfl⟩ := hres
            cases g2
            exact ⟨_, hm, .tuple .nil, rfl⟩
          | x1 :: x2 :: xs, hres =>
            simp only [Option.some.injEq, Prod.mk.injEq] at hres
            obtain ⟨rfl, rfl⟩ := hres
            have g2' := g2
            cases g2 with
            | cons h1 h2 => cases h2 with
              | cons h2 h3 => exact ⟨_, hm, .tuple g2', rfl⟩
      obtain ⟨v', q1, q2, rfl⟩ := hfin
      rcases hx with rfl | rfl
      · cases e <;> simp only [Ex.is] at hex
        exact ⟨f3, v', q1, r', v', rfl, f1, q2⟩
      · cases e <;> simp only [Ex.is] at hex
        exact ⟨f3, v', q1, r', v', rfl, f1, q2⟩
    split at h
    · rename_i env S2 he; exact key _ _ _ he (.inl rfl) h
    · rename_i env S2 he; exact key _ _ _ he (.inr rfl) h
    · cases h
theorem Ends.frame {c : Code} {env : Env} {S : St} {res : Ex × Env × St} (h : Ends P c env S res) {r0 : Ren} {S0 : St} {w0 : World} {r : Ren} {a : Act} {w : World} (hf : Fr r0 S0 w0 r S w) (he : EnvR r env a.tmps) (hd : a.defers = []) :
    c.wp P (fun e a' w' => res.1.is e ∧ ∃ r', Fr r0 S0 w0 r' res.2.2 w' ∧ EnvR r' res.2.1 a'.tmps ∧ a'.defers = []) a w :=
  wp_mono (h r a w hf.rel he hd) fun _ _ _ ⟨h1, r', h2, h3, h4⟩ => ⟨h1, r', hf.trans h2, h3, h4⟩
theorem ev_sound (hm : P.follows .mixedOrders = true) {pr : Prims} (hpr : PrimOk P pr) : ∀ (n : Nat) (c : Code) (env : Env) (S : St) (res : Ex × Env × St), ev P pr n c env S = some res → Ends P c env S res := by
  intro n
  induction n using Nat.strongRecOn with
  | _ n ih =>
    intro c env S res h
    cases n with
    | zero => exact absurd h (by simp [ev])
    | succ n =>
      rw [ev_succ] at h
      have ih' := ih n (Nat.lt_succ_self n)
      have hcall := callE_ok hpr ih'
      intro r a w hr he hd
      cases c with
      | skip =>
        simp only [evStep, Option.some.injEq] at h
        subst h
        exact wp_skip ⟨trivial, r, Fr.refl hr, he, hd⟩
      | label l =>
        simp only [evStep, Option.some.injEq] at h
        subst h
        exact wp_label ⟨trivial, r, Fr.refl hr, he, hd⟩
      | exit id =>
        simp only [evStep, Option.some.injEq] at h
        subst h
        exact wp_exit ⟨rfl, r, Fr.refl hr, he, hd⟩
      | goto l =>
        simp only [evStep, Option.some.injEq] at h
        subst h
        exact wp_goto ⟨rfl, r, Fr.refl hr, he, hd⟩
      | ret =>
        simp only [evStep, Option.some.injEq] at h
        subst h
        exact wp_ret ⟨trivial, r, Fr.refl hr, he, hd⟩
      | rangeFunc => simp [evStep] at h
      | scope => simp [evStep] at h
      | refuse => simp [evStep] at h
      | region id ops draw =>
        simp only [evStep] at h
        cases draw with
        | true =>
          simp only [cond_true] at h
          cases hD : evDraw P (callE P pr (ev P pr n)) ops env S with
          | none => rw [hD] at h; simp at h
          | some q =>
            obtain ⟨e1, s1⟩ := q
            rw [hD] at h
            simp only [Option.some.injEq] at h
            subst h
            exact evDraw_wp hm hcall hD hr he fun r' a' w' f1 f2 f3 => ⟨trivial, r', f1, f2, f3.trans hd⟩
        | false =>
          simp only [cond_false] at h
          cases hD : evOps P (callE P pr (ev P pr n)) ops ops.toList env S with
          | none => rw [hD] at h; simp at h
          | some q =>
            obtain ⟨e1, s1⟩ := q
            rw [hD] at h
            simp only [Option.some.injEq] at h
            subst h
            refine wp_region ?_
            have := evOps_wp hcall ops.toList 0 (by simp) hD (Q := fun e a' w' => (Ex.normal).is e ∧ ∃ r', Fr r S w r' s1 w' ∧ EnvR r' e1 a'.tmps ∧ a'.defers = []) hr he fun r' a' w' f1 f2 f3 => ⟨trivial, r', f1, f2, f3.trans hd⟩
            simpa using this
      | seq x y =>
        simp only [evStep] at h
        refine wp_seq ?_
        split at h
        · rename_i e1 s1 hx
          refine wp_mono (ih' x env S _ hx r a w hr he hd) ?_
          rintro e a' w' ⟨g1, r', g2, g3, g4⟩
          cases e <;> simp only [Ex.is] at g1
          exact (ih' y e1 s1 _ h).frame g2 g3 g4
        · rename_i hne
          refine wp_mono (ih' x env S _ h r a w hr he hd) ?_
          rintro e a' w' ⟨g1, g2⟩
          cases e with
          | normal =>
            obtain ⟨x1, e1, s1⟩ := res
            cases x1 <;> simp only [Ex.is] at g1
            exact absurd h (hne e1 s1)
          | _ => exact ⟨g1, g2⟩
      | cond x y z =>
        simp only [evStep] at h
        split at h
        · rename_i hx
          have := opd_sim (r := r) (a := a) (fun t _ v hv => he.at_ t v hv) hx
          exact wp_cond (t := true) (this.sc_eq rfl) (ih' y env S _ h r a w hr he hd)
        · rename_i hx
          have := opd_sim (r := r) (a := a) (fun t _ v hv => he.at_ t v hv) hx
          exact wp_cond (t := false) (this.sc_eq rfl) (ih' z env S _ h r a w hr he hd)
        · cases h
      | block id x =>
        simp only [evStep] at h
        refine wp_block ?_
        split at h
        · rename_i i e1 s1 hx
          refine wp_mono (ih' x env S _ hx r a w hr he hd) ?_
          rintro e a' w' ⟨g1, g2⟩
          cases e <;> simp only [Ex.is] at g1
          rename_i k
          subst g1
          simp only [Exit.inBlock]
          cases hb : Nat.beq i id with
          | true =>
            rw [hb] at h
            simp only [cond_true, Option.some.injEq] at h
            subst h
            rw [if_pos (beq0 hb)]
            exact ⟨trivial, g2⟩
          | false =>
            rw [hb] at h
            simp only [cond_false, Option.some.injEq] at h
            subst h
            rw [if_neg (nbeq0 hb)]
            exact ⟨rfl, g2⟩
        · rename_i hne
          refine wp_mono (ih' x env S _ h r a w hr he hd) ?_
          rintro e a' w' ⟨g1, g2⟩
          cases e with
          | exit k =>
            obtain ⟨x1, e1, s1⟩ := res
            cases x1 <;> simp only [Ex.is] at g1
            exact absurd h (hne _ e1 s1)
          | _ => exact ⟨g1, g2⟩
      | loop x =>
        refine wp_loop_ghost (fun k a' w' => k ≤ n + 1 ∧ ∃ env1 S1 r1, ev P pr k (.loop x) env1 S1 = some res ∧ Fr r S w r1 S1 w' ∧ EnvR r1 env1 a'.tmps ∧ a'.defers = []) (n + 1) ⟨Nat.le_refl _, env, S, r, by rw [ev_succ]; exact h, Fr.refl hr, he, hd⟩ ?_
        rintro k a1 w1 ⟨hk, env1, S1, r1, hev, f1, f2, f3⟩
        cases k with
        | zero => exact absurd hev (by simp [ev])
        | succ k =>
          rw [ev_succ] at hev
          simp only [evStep] at hev
          have ihk := ih k (by omega)
          split at hev
          · rename_i e2 s2 hx
            refine wp_mono (ihk x env1 S1 _ hx r1 a1 w1 f1.rel f2 f3) ?_
            rintro e a' w' ⟨g1, r', g2, g3, g4⟩
            cases e <;> simp only [Ex.is] at g1
            exact ⟨k, Nat.lt_succ_self k, by omega, e2, s2, r', hev, f1.trans g2, g3, g4⟩
          · rename_i hne
            refine wp_mono (ihk x env1 S1 _ hev r1 a1 w1 f1.rel f2 f3) ?_
            rintro e a' w' ⟨g1, r', g2, g3, g4⟩
            cases e with
            | normal =>
              obtain ⟨x1, e1, s1⟩ := res
              cases x1 <;> simp only [Ex.is] at g1
              exact absurd hev (hne e1 s1)
            | _ => exact ⟨g1, r', f1.trans g2, g3, g4⟩
/-- A call. -/
theorem call_sound (hm : P.follows .mixedOrders = true) {pr : Prims} (hpr : PrimOk P pr) (n : Nat) : CallOk P (callE P pr (ev P pr n)) := callE_ok hpr (ev_sound hm hpr n)
/-- A call without arguments, from whatever memory. -/
theorem closed_call (hm : P.follows .mixedOrders = true) {pr : Prims} (hpr : PrimOk P pr) (n : Nat) {f : FuncId} {v : Value} {S : St} (h : callE P pr (ev P pr n) f [] ⟨Hp.nil, 0⟩ = some (v, S)) (hv : plain v = true) (w : World) (hG : GlOk w) :
    Calls P f #[] w fun e w' => e = .returned v ∧ RowKit.Below w.heap.size w w' := by
  have hr : Rel ⟨0, id, id, id⟩ ⟨Hp.nil, 0⟩ w := ⟨fun p hp => ⟨(hG p hp).1, (by
      rintro ⟨i, o, h, _⟩
      simp only [St.get, Hp.get_nil] at h
      cases h), (hG p hp).2⟩, rfl, rfl, fun i o h => by
      simp only [St.get, Hp.get_nil] at h
      exact absurd h (by simp), fun i j oi oj h => by
      simp only [St.get, Hp.get_nil] at h
      cases h⟩
  refine (call_sound hm hpr n f [] _ v S h _ w [] hr .nil).mono ?_
  rintro e w' ⟨r', v', rfl, f1, f2⟩
  refine ⟨by rw [f2.plain_eq hv], f1.os, f1.tape, f1.output, f1.size, fun k hk => f1.kept k hk ?_⟩
  rintro ⟨i, o, hi, _⟩
  simp only [St.get, Hp.get_nil] at hi
  cases hi
end
end Go.Proofs.YtigkndbkaagboaaGreatDoor.Ev
end
section
namespace Go.Proofs.YtigkndbkaagboaaGreatDoor.Ev
open Go hiding Obj
set_option linter.unusedVariables false
set_option linter.unusedSimpArgs false
set_option linter.unusedSectionVars false
variable [Gl]
noncomputable def ob {α β : Type} (x : Option α) (f : α → Option β) : Option β := @Option.rec α (fun _ => Option β) none f x
theorem ob_some {α β : Type} {x : Option α} {f : α → Option β} {b : β} (h : ob x f = some b) : ∃ a, x = some a ∧ f a = some b := by
  cases x with
  | none => cases h
  | some a => exact ⟨a, rfl, h⟩
/-- A number, laid bare. -/
noncomputable def forceN {β : Type} (n : Nat) (k : Nat → β) : β := @Nat.rec (fun _ => β) (k 0) (fun m _ => k (Nat.succ m)) n
theorem forceN_eq {β : Type} (n : Nat) (k : Nat → β) : forceN n k = k n := by cases n <;> rfl
noncomputable def Env.upF (e : Env) (d : Option Tmp) (v : Value) : Env :=
  @Option.rec Tmp (fun _ => Env → Value → Env) (fun e _ => e) (fun t e v => @Env.rec (fun _ => Nat → Value → Env) (fun tr sz t v => ⟨ifB (Nat.ble (Nat.succ t) sz) (Tr.ins tr t v) Tr.nil, sz⟩) e t v) d e v
theorem Env.upF_eq (e : Env) (d : Option Tmp) (v : Value) : e.upF d v = e.up d v := by
  cases d with
  | none => rfl
  | some t =>
    obtain ⟨tr, sz⟩ := e
    have : (⟨tr, sz⟩ : Env).upF (some t) v = ⟨ifB (Nat.ble (Nat.succ t) sz) (Tr.ins tr t v) Tr.nil, sz⟩ := rfl
    rw [this, ifB_eq]; rfl
/- values -/
noncomputable def constV (v : Value) : Option Value := bif plain v then some v else none
noncomputable def opdF (e : Env) (x : Operand) : Option Value :=
  @Operand.rec (fun _ => Env → Option Value) (fun t e => e.at t) (fun v _ => constV v) (fun _ _ => none) (fun f _ => some (.func (.func f) #[] #[])) x e
theorem opdF_eq (e : Env) (x : Operand) : opdF e x = opd e x := by cases x <;> rfl
/-- The place that a pointer leads to. -/
noncomputable def ptrOf (v : Value) : Option (Nat × Nat) :=
  @Value.rec (fun _ => Option (Nat × Nat)) (fun _ => PUnit) (fun _ => PUnit) (fun _ => none) (fun _ _ => none) (fun _ _ => none) (fun _ _ _ => none) (fun _ => none)
    (fun a => @Option.rec Addr (fun _ => Option (Nat × Nat)) none (fun a => @Option.rec Nat (fun _ => Option (Nat × Nat)) (some (a.block, a.off)) (fun _ => none) a.spot) a)
    (fun _ _ _ => none) (fun _ => none) (fun _ => none) (fun _ _ _ _ _ => none) none (fun _ _ _ => none) none (fun _ _ => none) (fun _ _ => none) (fun _ _ => ⟨⟩) ⟨⟩ (fun _ _ _ _ => ⟨⟩) v
theorem ptrOf_some {v : Value} {q : Nat × Nat} (h : ptrOf v = some q) : v = .pointer (some ⟨q.1, q.2, none⟩) := by
  cases v with
  | pointer a =>
    cases a with
    | none => cases h
    | some a =>
      obtain ⟨b, o, s⟩ := a
      cases s with
      | none =>
        have h : some (b, o) = some q := h
        injection h with h
        subst h; rfl
      | some s => cases h
  | _ => cases h
noncomputable def cellsOf (S : St) (b : Nat) : Option (List Value × TypeId × Nat) :=
  ob (S.get b) fun o => @Obj.rec (fun _ => Option (List Value × TypeId × Nat)) (fun c e z => some (c, e, z)) (fun _ _ => none) (fun _ _ _ _ => none) (fun _ _ => none) o
theorem cellsOf_some {S : St} {b : Nat} {q : List Value × TypeId × Nat} (h : cellsOf S b = some q) : S.get b = some (.cells q.1 q.2.1 q.2.2) := by
  obtain ⟨o, h1, h2⟩ := ob_some h
  cases o with
  | cells c e z =>
    have h2 : some (c, e, z) = some q := h2
    injection h2 with h2
    subst h2; exact h1
  | _ => cases h2
noncomputable def dropF {α : Type} (n : Nat) (l : List α) : List α := @Nat.rec (fun _ => List α → List α) (fun l => l) (fun _ ih l => @List.rec α (fun _ => List α) [] (fun _ t _ => ih t) l) n l
theorem dropF_eq {α : Type} : ∀ (n : Nat) (l : List α), dropF n l = l.drop n
  | 0, l => rfl
  | n + 1, [] => rfl
  | n + 1, x :: t => by
    have : dropF (n + 1) (x :: t) = dropF n t := rfl
    rw [this, dropF_eq n t]; simp
/-- Just so many. -/
noncomputable def takeF {α : Type} (n : Nat) (l : List α) : Option (List α) :=
  @Nat.rec (fun _ => List α → Option (List α)) (fun _ => some []) (fun _ ih l => @List.rec α (fun _ => Option (List α)) none (fun x t _ => ob (ih t) fun r => some (x :: r)) l) n l
theorem takeF_some {α : Type} : ∀ {n : Nat} {l r : List α}, takeF n l = some r → r = l.take n ∧ r.length = n
  | 0, l, r, h => by
    have h : some [] = some r := h
    injection h with h; subst h; simp
  | n + 1, [], r, h => by cases h
  | n + 1, x :: t, r, h => by
    have h : ob (takeF n t) (fun r => some (x :: r)) = some r := h
    obtain ⟨q, h1, h2⟩ := ob_some h
    injection h2 with h2
    obtain ⟨h3, h4⟩ := takeF_some h1
    subst h2
    subst h3
    simpa using h4
noncomputable def nthF {α : Type} (n : Nat) (l : List α) : Option α :=
  @Nat.rec (fun _ => List α → Option α) (fun l => @List.rec α (fun _ => Option α) none (fun x _ _ => some x) l) (fun _ ih l => @List.rec α (fun _ => Option α) none (fun _ t _ => ih t) l) n l
theorem nthF_eq {α : Type} : ∀ (n : Nat) (l : List α), nthF n l = l[n]?
  | 0, [] => rfl
  | 0, x :: t => rfl
  | n + 1, [] => rfl
  | n + 1, x :: t => by
    have : nthF (n + 1) (x :: t) = nthF n t := rfl
    rw [this, nthF_eq n t]; simp
/-- Other things in the place of some. -/
noncomputable def overF {α : Type} (xs c : List α) : Option (List α) :=
  @List.rec α (fun _ => List α → Option (List α)) (fun c => some c) (fun x _ ih c => @List.rec α (fun _ => Option (List α)) none (fun _ t _ => ob (ih t) fun r => some (x :: r)) c) xs c
noncomputable def splF {α : Type} (o : Nat) (xs c : List α) : Option (List α) :=
  @Nat.rec (fun _ => List α → List α → Option (List α)) (fun xs c => overF xs c) (fun _ ih xs c => @List.rec α (fun _ => Option (List α)) none (fun y t _ => ob (ih xs t) fun r => some (y :: r)) c) o xs c
theorem overF_some {α : Type} : ∀ {xs c r : List α}, overF xs c = some r → xs.length ≤ c.length ∧ r = xs ++ c.drop xs.length
  | [], c, r, h => by
    have h : some c = some r := h
    injection h with h; subst h; simp
  | x :: xs, [], r, h => by cases h
  | x :: xs, y :: c, r, h => by
    have h : ob (overF xs c) (fun r => some (x :: r)) = some r := h
    obtain ⟨q, h1, h2⟩ := ob_some h
    injection h2 with h2
    obtain ⟨h3, h4⟩ := overF_some h1
    subst h2
    simp [h4, h3]
theorem splF_some {α : Type} : ∀ {o : Nat} {xs c r : List α}, splF o xs c = some r → o + xs.length ≤ c.length ∧ r = spl c o xs
  | 0, xs, c, r, h => by
    have h : overF xs c = some r := h
    obtain ⟨h1, h2⟩ := overF_some h
    simp [spl, h1, h2]
  | o + 1, xs, [], r, h => by cases h
  | o + 1, xs, y :: c, r, h => by
    have h : ob (splF o xs c) (fun r => some (y :: r)) = some r := h
    obtain ⟨q, h1, h2⟩ := ob_some h
    injection h2 with h2
    obtain ⟨h3, h4⟩ := splF_some h1
    subst h2
    refine ⟨by simp; omega, ?_⟩
    rw [h4]
    simp [spl, show o + 1 + xs.length = (o + xs.length) + 1 by omega]
/-- Rows of a table as a tree. -/
noncomputable def Hp.ofL {α : Type} (l : List α) (i : Nat) (t : Hp α) : Hp α := @List.rec α (fun _ => Nat → Hp α → Hp α) (fun _ t => t) (fun x _ ih i t => forceN i fun i => ih (Nat.add i 1) (Hp.ins t i x)) l i t
theorem Hp.get_ofL {α : Type} : ∀ {l : List α} {i : Nat} {t : Hp α} {k : Nat} {x : α}, (Hp.ofL l i t).get k = some x → (i ≤ k ∧ l[k - i]? = some x) ∨ (t.get k = some x)
  | [], i, t, k, x, h => .inr h
  | y :: l, i, t, k, x, h => by
    have h : (forceN i fun i => Hp.ofL l (i + 1) (Hp.ins t i y)).get k = some x := h
    rw [forceN_eq] at h
    rcases Hp.get_ofL h with ⟨h1, h2⟩ | h
    · refine .inl ⟨by omega, ?_⟩
      rw [show k - i = (k - (i + 1)) + 1 by omega]
      simpa using h2
    · rcases Hp.get_ins h with ⟨rfl, rfl⟩ | ⟨_, h⟩
      · exact .inl ⟨Nat.le_refl _, by simp⟩
      · exact .inr h
noncomputable def tyT (P : Program) : Hp TypeInfo := Hp.ofL P.types.toList 0 Hp.nil
noncomputable def infoF (P : Program) (t : TypeId) : Option TypeInfo := match (tyT P).get t with | some i => some i | none => P.info? t
theorem infoF_eq (P : Program) (t : TypeId) : infoF P t = P.info? t := by
  unfold infoF
  split
  · rename_i i h
    rcases Hp.get_ofL h with ⟨_, h⟩ | h
    · have h1 : P.types[t]? = some i := by simpa using h
      have h2 : t < P.types.size := (Array.getElem?_eq_some_iff.1 h1).1
      show some i = Tables.info? _ t
      unfold Tables.info?
      rw [if_pos h2]
      exact h1.symm
    · rw [Hp.get_nil] at h; cases h
  · rfl
noncomputable def undF (P : Program) (t : TypeId) : Option TypeDesc :=
  match infoF P t with
  | some { desc := .named _ u, .. } => (infoF P u).map (·.desc)
  | some i => some i.desc
  | none => none
theorem undF_eq (P : Program) (t : TypeId) : undF P t = P.underlying t := by
  unfold undF Program.underlying
  simp only [infoF_eq]
  rfl
noncomputable def fnT (P : Program) : Hp Func := Hp.ofL P.funcs.toList 0 Hp.nil
noncomputable def funcF (P : Program) (f : FuncId) : Option Func := match (fnT P).get f with | some i => some i | none => P.funcs[f]?
theorem funcF_eq (P : Program) (t : FuncId) : funcF P t = P.funcs[t]? := by
  unfold funcF
  split
  · rename_i i h
    rcases Hp.get_ofL h with ⟨_, h⟩ | h
    · have : P.funcs[t]? = some i := by simpa using h
      exact this.symm
    · rw [Hp.get_nil] at h; cases h
  · rfl
section
variable {P : Program}
/-- How a value of a type lies: of so many cells; of one. -/
noncomputable def tyAcc (P : Program) (t : TypeId) : Option (Option Nat) :=
  match undF P t with
  | some (.struct _) | some (.array _ _) => match infoF P t with
    | some i => some (some i.size)
    | none => none
  | some _ => some none
  | none => none
noncomputable def ldF (P : Program) (S : St) (t : TypeId) (v : Value) : Option Value :=
  ob (ptrOf v) fun q => ob (cellsOf S q.1) fun c => ob (tyAcc P t) fun a =>
    @Option.rec Nat (fun _ => List Value → Nat → Option Value) (fun c o => nthF o c) (fun n c o => ob (takeF n (dropF o c)) fun xs => some (.agg ⟨xs⟩)) a c.1 q.2
theorem ldF_some {S : St} {t : TypeId} {v x : Value} (h0 : ldF P S t v = some x) : ld P S t v = some x := by
  obtain ⟨q, h1, h⟩ := ob_some h0
  obtain ⟨c, h2, h⟩ := ob_some h
  obtain ⟨a, h3, h⟩ := ob_some h
  obtain rfl := ptrOf_some h1
  have h2 := cellsOf_some h2
  simp only [ld, h2]
  unfold tyAcc at h3
  simp only [infoF_eq, undF_eq] at h3
  cases a with
  | none =>
    have h : nthF q.2 c.1 = some x := h
    rw [nthF_eq] at h
    split at h3
    · split at h3 <;> cases h3
    · split at h3 <;> cases h3
    · rename_i d hns hna hu
      rw [hu]
      cases d <;> first | exact h | exact absurd rfl (hns _) | exact absurd rfl (hna _ _)
    · cases h3
  | some n =>
    have h : ob (takeF n (dropF q.2 c.1)) (fun xs => some (.agg ⟨xs⟩)) = some x := h
    obtain ⟨xs, h4, h5⟩ := ob_some h
    injection h5 with h5
    subst h5
    rw [dropF_eq] at h4
    obtain ⟨h6, h7⟩ := takeF_some h4
    split at h3
    · rename_i fs hu
      split at h3
      · rename_i i hi
        injection h3 with h3
        injection h3 with h3
        subst h3
        simp only [hu, hi, ← h6, h7, Nat.beq_refl, cond_true]
      · cases h3
    · rename_i n' e hu
      split at h3
      · rename_i i hi
        injection h3 with h3
        injection h3 with h3
        subst h3
        simp only [hu, hi, ← h6, h7, Nat.beq_refl, cond_true]
      · cases h3
    · cases h3
    · cases h3
/-- The cells of a value that is stored, if they are so many. -/
def oneB : Value → Bool := Value.oneCell'
noncomputable def allF (xs : List Value) : Bool := @List.rec Value (fun _ => Bool) true (fun x _ ih => ifB (oneB x) ih false) xs
theorem allF_eq : ∀ xs : List Value, allF xs = xs.all (·.oneCell')
  | [] => rfl
  | x :: xs => by
    have : allF (x :: xs) = ifB (oneB x) (allF xs) false := rfl
    rw [this, ifB_eq, allF_eq xs]
    simp only [List.all_cons, oneB]
    cases x.oneCell' <;> rfl
noncomputable def lenF {α : Type} (xs : List α) (n : Nat) : Nat := @List.rec α (fun _ => Nat → Nat) (fun n => n) (fun _ _ ih n => ih (Nat.add n 1)) xs n
theorem lenF_eq {α : Type} : ∀ (xs : List α) (n : Nat), lenF xs n = n + xs.length
  | [], n => rfl
  | x :: xs, n => by
    have : lenF (x :: xs) n = lenF xs (n + 1) := rfl
    rw [this, lenF_eq xs (n + 1)]; simp; omega
noncomputable def tySize (P : Program) (t : TypeId) : Option Nat := match infoF P t with | some i => some i.size | none => none
noncomputable def stoF (P : Program) (S : St) (t : TypeId) (v x : Value) : Option St :=
  ob (ptrOf v) fun q => ob (cellsOf S q.1) fun c => ob (tySize P t) fun n =>
    ifB (Nat.beq (lenF x.cells.toList 0) n) (ifB (allF x.cells.toList) (ob (splF q.2 x.cells.toList c.1) fun c' => some (S.set q.1 (.cells c' c.2.1 c.2.2))) none) none
theorem stoF_some {S S' : St} {t : TypeId} {v x : Value} (h0 : stoF P S t v x = some S') : sto P S t v x = some S' := by
  obtain ⟨q, h1, h⟩ := ob_some h0
  obtain ⟨c, h2, h⟩ := ob_some h
  obtain ⟨n, h3, h⟩ := ob_some h
  obtain rfl := ptrOf_some h1
  have h2 := cellsOf_some h2
  rw [ifB_eq, ifB_eq, lenF_eq, allF_eq, Nat.zero_add] at h
  unfold tySize at h3
  simp only [infoF_eq, undF_eq] at h3
  split at h3
  case h_2 => cases h3
  rename_i i hi
  injection h3 with h3
  subst h3
  simp only [sto, h2, hi]
  cases hb : Nat.beq x.cells.toList.length i.size with
  | false => rw [hb] at h; simp at h
  | true =>
    rw [hb] at h
    simp only [cond_true] at h
    cases ha : x.cells.toList.all (·.oneCell') with
    | false => rw [ha] at h; simp at h
    | true =>
      rw [ha] at h
      simp only [cond_true] at h
      obtain ⟨c', h4, h5⟩ := ob_some h
      obtain ⟨h6, h7⟩ := splF_some h4
      injection h5 with h5
      rw [Nat.ble_eq_true_of_le h6]
      simp only [Bool.and_true, cond_true]
      rw [← h7, h5]
noncomputable def fldOff (P : Program) (s : TypeId) (f : Nat) : Option Nat :=
  match undF P s with
  | some (.struct fs) => match fs[f]? with
    | some f => match infoF P f.type with
      | some i => bif Nat.beq i.size 0 then none else some f.offset
      | none => none
    | none => none
  | _ => none
noncomputable def flaF (P : Program) (s : TypeId) (x : Value) (f : Nat) : Option Value := ob (fldOff P s f) fun k => ob (ptrOf x) fun q => some (.pointer (some ⟨q.1, Nat.add q.2 k, none⟩))
theorem flaF_some {s : TypeId} {x v : Value} {f : Nat} (h : flaF P s x f = some v) : fla P s x f = some v := by
  obtain ⟨k, h1, h⟩ := ob_some h
  obtain ⟨q, h2, h⟩ := ob_some h
  obtain rfl := ptrOf_some h2
  injection h with h
  subst h
  unfold fldOff at h1
  simp only [infoF_eq, undF_eq] at h1
  split at h1
  case h_2 => cases h1
  rename_i fs hu
  split at h1
  case h_2 => cases h1
  rename_i fl hf
  split at h1
  case h_2 => cases h1
  rename_i i hi
  simp only [fla, hu, hf, hi]
  cases hb : Nat.beq i.size 0 with
  | true => rw [hb] at h1; simp at h1
  | false =>
    rw [hb] at h1
    simp only [cond_false, Option.some.injEq] at h1
    subst h1
    rfl
/-- How things lie in a slice or an array: of so many, of so many cells. -/
noncomputable def elemOf (P : Program) (t : TypeId) : Option (Option Nat × Nat) :=
  match undF P t with
  | some (.array n e) => match infoF P e with | some ie => some (some n, ie.size) | none => none
  | some (.slice e) => match infoF P e with | some ie => some (none, ie.size) | none => none
  | _ => none
/-- The number, if it is none below nought. -/
noncomputable def natOf (v : Value) : Option Nat :=
  @Value.rec (fun _ => Option Nat) (fun _ => PUnit) (fun _ => PUnit) (fun _ => none) (fun _ n => @Int.rec (fun _ => Option Nat) (fun n => some n) (fun _ => none) n) (fun _ _ => none) (fun _ _ _ => none) (fun _ => none)
    (fun _ => none) (fun _ _ _ => none) (fun _ => none) (fun _ => none) (fun _ _ _ _ _ => none) none (fun _ _ _ => none) none (fun _ _ => none) (fun _ _ => none) (fun _ _ => ⟨⟩) ⟨⟩ (fun _ _ _ _ => ⟨⟩) v
theorem natOf_some {v : Value} {n : Nat} (h : natOf v = some n) : ∃ k, v = .int k (.ofNat n) := by
  cases v with
  | int k m =>
    cases m with
    | ofNat m =>
      have h : some m = some n := h
      injection h with h
      subst h; exact ⟨k, rfl⟩
    | negSucc m => cases h
  | _ => cases h
/-- The row that a slice leads to: its block, its offset, its length. -/
noncomputable def sliOf (v : Value) : Option (Nat × Nat × Nat) :=
  @Value.rec (fun _ => Option (Nat × Nat × Nat)) (fun _ => PUnit) (fun _ => PUnit) (fun _ => none) (fun _ _ => none) (fun _ _ => none) (fun _ _ _ => none) (fun _ => none) (fun _ => none)
    (fun a l _ => @Option.rec Addr (fun _ => Option (Nat × Nat × Nat)) none (fun a => @Option.rec Nat (fun _ => Option (Nat × Nat × Nat)) (some (a.block, a.off, l)) (fun _ => none) a.spot) a)
    (fun _ => none) (fun _ => none) (fun _ _ _ _ _ => none) none (fun _ _ _ => none) none (fun _ _ => none) (fun _ _ => none) (fun _ _ => ⟨⟩) ⟨⟩ (fun _ _ _ _ => ⟨⟩) v
theorem sliOf_some {v : Value} {q : Nat × Nat × Nat} (h : sliOf v = some q) : ∃ c, v = .slice (some ⟨q.1, q.2.1, none⟩) q.2.2 c := by
  cases v with
  | slice a l c =>
    cases a with
    | none => cases h
    | some a =>
      obtain ⟨b, o, s⟩ := a
      cases s with
      | none =>
        have h : some (b, o, l) = some q := h
        injection h with h
        subst h; exact ⟨c, rfl⟩
      | some s => cases h
  | _ => cases h
noncomputable def ixaF (P : Program) (t : TypeId) (x i : Value) : Option Value :=
  ob (elemOf P t) fun q => ob (natOf i) fun i =>
    @Option.rec Nat (fun _ => Value → Nat → Nat → Option Value)
      (fun x i sz => ob (sliOf x) fun a => ifB (Nat.ble (Nat.succ i) a.2.2) (some (.pointer (some ⟨a.1, Nat.add a.2.1 (Nat.mul i sz), none⟩))) none)
      (fun n x i sz => ob (ptrOf x) fun a => ifB (Nat.ble (Nat.succ i) n) (some (.pointer (some ⟨a.1, Nat.add a.2 (Nat.mul i sz), none⟩))) none) q.1 x i q.2
theorem ifB_some {α : Type} {b : Bool} {x : Option α} {y : α} (h : ifB b x none = some y) : b = true ∧ x = some y := by
  cases b with
  | true => exact ⟨rfl, h⟩
  | false => cases h
theorem ixaF_some {t : TypeId} {x i v : Value} (h : ixaF P t x i = some v) : ixa P t x i = some v := by
  obtain ⟨q, h1, h⟩ := ob_some h
  obtain ⟨j, h2, h⟩ := ob_some h
  obtain ⟨k, rfl⟩ := natOf_some h2
  obtain ⟨q1, q2⟩ := q
  unfold elemOf at h1
  simp only [infoF_eq, undF_eq] at h1
  split at h1
  · rename_i n e hu
    split at h1
    · rename_i ie hi
      injection h1 with h1
      injection h1 with h1 h1'
      subst h1; subst h1'
      have h : ob (ptrOf x) (fun a => ifB (Nat.ble (Nat.succ j) n) (some (.pointer (some ⟨a.1, Nat.add a.2 (Nat.mul j ie.size), none⟩))) none) = some v := h
      obtain ⟨a, h3, h⟩ := ob_some h
      obtain rfl := ptrOf_some h3
      obtain ⟨h4, h5⟩ := ifB_some h
      simp only [ixa, hu, hi]
      rw [show Nat.blt j n = true from h4]
      exact h5
    · cases h1
  · rename_i e hu
    split at h1
    · rename_i ie hi
      injection h1 with h1
      injection h1 with h1 h1'
      subst h1; subst h1'
      have h : ob (sliOf x) (fun a => ifB (Nat.ble (Nat.succ j) a.2.2) (some (.pointer (some ⟨a.1, Nat.add a.2.1 (Nat.mul j ie.size), none⟩))) none) = some v := h
      obtain ⟨a, h3, h⟩ := ob_some h
      obtain ⟨c, rfl⟩ := sliOf_some h3
      obtain ⟨h4, h5⟩ := ifB_some h
      simp only [ixa, hu, hi]
      rw [show Nat.blt j a.2.2 = true from h4]
      exact h5
    · cases h1
  · cases h1
/-- The cells of a struct's value. -/
noncomputable def aggOf (v : Value) : Option (List Value) :=
  @Value.rec (fun _ => Option (List Value)) (fun _ => PUnit) (fun _ => PUnit) (fun _ => none) (fun _ _ => none) (fun _ _ => none) (fun _ _ _ => none) (fun _ => none) (fun _ => none)
    (fun _ _ _ => none) (fun _ => none) (fun _ => none) (fun _ _ _ _ _ => none) none (fun _ _ _ => none) none (fun c _ => some c.toList) (fun _ _ => none) (fun _ _ => ⟨⟩) ⟨⟩ (fun _ _ _ _ => ⟨⟩) v
theorem aggOf_some {v : Value} {c : List Value} (h : aggOf v = some c) : ∃ a, v = .agg a ∧ a.toList = c := by
  cases v with
  | agg a =>
    have h : some a.toList = some c := h
    injection h with h
    exact ⟨a, rfl, h⟩
  | _ => cases h
noncomputable def tupOf (v : Value) : Option (List Value) :=
  @Value.rec (fun _ => Option (List Value)) (fun _ => PUnit) (fun _ => PUnit) (fun _ => none) (fun _ _ => none) (fun _ _ => none) (fun _ _ _ => none) (fun _ => none) (fun _ => none)
    (fun _ _ _ => none) (fun _ => none) (fun _ => none) (fun _ _ _ _ _ => none) none (fun _ _ _ => none) none (fun _ _ => none) (fun c _ => some c.toList) (fun _ _ => ⟨⟩) ⟨⟩ (fun _ _ _ _ => ⟨⟩) v
theorem tupOf_some {v : Value} {c : List Value} (h : tupOf v = some c) : ∃ a, v = .tuple a ∧ a.toList = c := by
  cases v with
  | tuple a =>
    have h : some a.toList = some c := h
    injection h with h
    exact ⟨a, rfl, h⟩
  | _ => cases h
/-- A field: where it lies, of how many cells (one, or a part). -/
noncomputable def fldAt (P : Program) (t : TypeId) (f : Nat) : Option (Nat × Option Nat) :=
  match undF P t with
  | some (.struct fs) => match fs[f]? with
    | some f => match tyAcc P f.type with | some a => some (f.offset, a) | none => none
    | none => none
  | _ => none
noncomputable def fldF (P : Program) (t : TypeId) (x : Value) (f : Nat) : Option Value :=
  ob (fldAt P t f) fun q => ob (aggOf x) fun c =>
    @Option.rec Nat (fun _ => List Value → Nat → Option Value) (fun c o => nthF o c) (fun n c o => ob (takeF n (dropF o c)) fun xs => some (.agg ⟨xs⟩)) q.2 c q.1
theorem fldF_some {t : TypeId} {x v : Value} {f : Nat} (h : fldF P t x f = some v) : fld P t x f = some v := by
  obtain ⟨q, h1, h⟩ := ob_some h
  obtain ⟨c, h2, h⟩ := ob_some h
  obtain ⟨a, rfl, rfl⟩ := aggOf_some h2
  unfold fldAt at h1
  simp only [infoF_eq, undF_eq] at h1
  split at h1
  case h_2 => cases h1
  rename_i fs hu
  split at h1
  case h_2 => cases h1
  rename_i fl hf
  split at h1
  case h_2 => cases h1
  rename_i acc h3
  injection h1 with h1
  subst h1
  simp only [fld, hu, hf, prt]
  unfold tyAcc at h3
  simp only [infoF_eq, undF_eq] at h3
  cases acc with
  | none =>
    have h : nthF fl.offset a.toList = some v := h
    rw [nthF_eq] at h
    split at h3
    · split at h3 <;> cases h3
    · split at h3 <;> cases h3
    · rename_i d hns hna hu'
      rw [hu']
      cases d <;> first | exact h | exact absurd rfl (hns _) | exact absurd rfl (hna _ _)
    · cases h3
  | some n =>
    have h : ob (takeF n (dropF fl.offset a.toList)) (fun xs => some (.agg ⟨xs⟩)) = some v := h
    obtain ⟨xs, h4, h5⟩ := ob_some h
    injection h5 with h5
    subst h5
    rw [dropF_eq] at h4
    obtain ⟨h6, h7⟩ := takeF_some h4
    split at h3
    · rename_i fs hu'
      split at h3
      · rename_i i hi
        injection h3 with h3
        injection h3 with h3
        subst h3
        simp only [hu', hi, ← h6]
      · cases h3
    · rename_i n' e hu'
      split at h3
      · rename_i i hi
        injection h3 with h3
        injection h3 with h3
        subst h3
        simp only [hu', hi, ← h6]
      · cases h3
    · cases h3
    · cases h3
end
end Go.Proofs.YtigkndbkaagboaaGreatDoor.Ev
end
section
namespace Go.Proofs.YtigkndbkaagboaaGreatDoor.Ev
open Go hiding Obj
set_option linter.unusedVariables false
set_option linter.unusedSimpArgs false
set_option linter.unusedSectionVars false
variable [Gl]
/-- A natural number, as a number of a kind. -/
noncomputable def wrapW (k : IntKind) : W (Nat → Option Int) :=
  @IntKind.rec (fun _ => W (Nat → Option Int)) ⟨fun _ => none⟩ ⟨fun _ => none⟩ ⟨fun _ => none⟩ ⟨fun n => ifB (Nat.ble (Nat.succ n) 9223372036854775808) (some (Int.ofNat n)) none⟩
    ⟨fun n => forceN (Nat.mod n 256) fun m => some (Int.ofNat m)⟩ ⟨fun _ => none⟩ ⟨fun _ => none⟩ ⟨fun n => forceN (Nat.mod n 18446744073709551616) fun m => some (Int.ofNat m)⟩ k
noncomputable def natW (k : IntKind) (n : Nat) : Option Value := @W.rec (Nat → Option Int) (fun _ => Option Value) (fun f => ob (f n) fun m => some (.int k m)) (wrapW k)
theorem natW_some {k : IntKind} {n : Nat} {v : Value} (h : natW k n = some v) : v = .int k (k.wrap (Int.ofNat n)) := by
  cases k with
  | i64 =>
    have h : ob (ifB (Nat.ble (Nat.succ n) 9223372036854775808) (some (Int.ofNat n)) none) (fun m => some (Value.int .i64 m)) = some v := h
    obtain ⟨m, h1, h2⟩ := ob_some h
    obtain ⟨h3, h4⟩ := ifB_some h1
    have h3 := Nat.le_of_ble_eq_true h3
    injection h4 with h4
    injection h2 with h2
    subst h4; subst h2
    congr 1
    simp [IntKind.wrap, IntKind.bits, IntKind.signed]
    omega
  | u8 =>
    have h : ob (forceN (Nat.mod n 256) fun m => some (Int.ofNat m)) (fun m => some (Value.int .u8 m)) = some v := h
    rw [forceN_eq] at h
    obtain ⟨m, h1, h2⟩ := ob_some h
    injection h1 with h1
    injection h2 with h2
    subst h1; subst h2
    congr 1
  | u64 =>
    have h : ob (forceN (Nat.mod n 18446744073709551616) fun m => some (Int.ofNat m)) (fun m => some (Value.int .u64 m)) = some v := h
    rw [forceN_eq] at h
    obtain ⟨m, h1, h2⟩ := ob_some h
    injection h1 with h1
    injection h2 with h2
    subst h1; subst h2
    congr 1
  | _ => cases h
/-- A number below nought. -/
noncomputable def negW (k : IntKind) (d : Nat) : Option Value :=
  @IntKind.rec (fun _ => Nat → Option Value) (fun _ => none) (fun _ => none) (fun _ => none) (fun d => ifB (Nat.ble d 9223372036854775808) (forceN (Nat.sub d 1) fun e => some (.int .i64 (Int.negSucc e))) none)
    (fun _ => none) (fun _ => none) (fun _ => none) (fun _ => none) k d
theorem negW_some {k : IntKind} {d : Nat} {v : Value} (hd : 0 < d) (h : negW k d = some v) : v = .int k (k.wrap (-(d : Int))) := by
  cases k with
  | i64 =>
    have h : ifB (Nat.ble d 9223372036854775808) (forceN (Nat.sub d 1) fun e => some (Value.int .i64 (Int.negSucc e))) none = some v := h
    obtain ⟨h3, h4⟩ := ifB_some h
    rw [forceN_eq] at h4
    have h3 := Nat.le_of_ble_eq_true h3
    injection h4 with h4
    subst h4
    congr 1
    simp [IntKind.wrap, IntKind.bits, IntKind.signed]
    obtain ⟨e, rfl⟩ : ∃ e, d = e + 1 := ⟨d - 1, by omega⟩
    have e1 : e + 1 - 1 = e := by omega
    rw [e1, Int.negSucc_eq]
    split <;> omega
  | _ => cases h
noncomputable def kidx (k : IntKind) : Nat := @IntKind.rec (fun _ => Nat) 0 1 2 3 4 5 6 7 k
theorem kidx_eq {k l : IntKind} (h : Nat.beq (kidx k) (kidx l) = true) : k = l := by
  cases k <;> cases l <;> first | rfl | cases h
/-- Of 64 bits? -/
noncomputable def k64 (k : IntKind) : Bool := @IntKind.rec (fun _ => Bool) false false false true false false false true k
theorem k64_bits {k : IntKind} (h : k64 k = true) : k.bits = 64 := by cases k <;> first | rfl | cases h
noncomputable def ku64 (k : IntKind) : Bool := @IntKind.rec (fun _ => Bool) false false false false false false false true k
theorem ku64_eq {k : IntKind} (h : ku64 k = true) : k = .u64 := by cases k <;> first | rfl | cases h
noncomputable def boolV (b : Bool) : Option Value := some (.bool b)
/-- Two natural numbers. -/
noncomputable def natBin (op : BinOp) : W (IntKind → Nat → Nat → Option Value) :=
  @BinOp.rec (fun _ => W (IntKind → Nat → Nat → Option Value))
    ⟨fun k x y => natW k (Nat.add x y)⟩
    ⟨fun k x y => ifB (Nat.ble y x) (natW k (Nat.sub x y)) (negW k (Nat.sub y x))⟩
    ⟨fun k x y => natW k (Nat.mul x y)⟩
    ⟨fun _ _ _ => none⟩ ⟨fun _ _ _ => none⟩
    ⟨fun k x y => ifB (ku64 k) (natW k (Nat.land x y)) none⟩
    ⟨fun k x y => ifB (ku64 k) (natW k (Nat.lor x y)) none⟩
    ⟨fun _ _ _ => none⟩
    ⟨fun k x y => ifB (k64 k) (ifB (Nat.ble y 64) (natW k (Nat.mul x (Nat.pow 2 y))) none) none⟩
    ⟨fun k x y => ifB (k64 k) (ifB (Nat.ble y 64) (forceN (Nat.div x (Nat.pow 2 y)) fun m => some (.int k (Int.ofNat m))) none) none⟩
    ⟨fun _ _ _ => none⟩
    ⟨fun _ x y => boolV (Nat.beq x y)⟩
    ⟨fun _ x y => boolV (ifB (Nat.beq x y) false true)⟩
    ⟨fun _ x y => boolV (Nat.ble (Nat.succ x) y)⟩
    ⟨fun _ x y => boolV (Nat.ble x y)⟩
    ⟨fun _ x y => boolV (Nat.ble (Nat.succ y) x)⟩
    ⟨fun _ x y => boolV (Nat.ble y x)⟩ op
/-- The first number is (or is not) below nought, the other is not (or is). -/
noncomputable def sgnBin (op : BinOp) : W (Bool → Option Value) :=
  @BinOp.rec (fun _ => W (Bool → Option Value)) ⟨fun _ => none⟩ ⟨fun _ => none⟩ ⟨fun _ => none⟩ ⟨fun _ => none⟩ ⟨fun _ => none⟩ ⟨fun _ => none⟩ ⟨fun _ => none⟩ ⟨fun _ => none⟩ ⟨fun _ => none⟩ ⟨fun _ => none⟩ ⟨fun _ => none⟩
    ⟨fun _ => boolV false⟩ ⟨fun _ => boolV true⟩ ⟨fun b => boolV b⟩ ⟨fun b => boolV b⟩ ⟨fun b => boolV (ifB b false true)⟩ ⟨fun b => boolV (ifB b false true)⟩ op
noncomputable def intBin (op : BinOp) (k : IntKind) (a b : Int) : Option Value :=
  @Int.rec (fun _ => BinOp → IntKind → Int → Option Value)
    (fun x op k b => @Int.rec (fun _ => BinOp → IntKind → Nat → Option Value) (fun y op k x => @W.rec (IntKind → Nat → Nat → Option Value) (fun _ => Option Value) (fun f => f k x y) (natBin op))
      (fun _ op _ _ => @W.rec (Bool → Option Value) (fun _ => Option Value) (fun f => f false) (sgnBin op)) b op k x)
    (fun _ op _ b => @Int.rec (fun _ => BinOp → Option Value) (fun _ op => @W.rec (Bool → Option Value) (fun _ => Option Value) (fun f => f true) (sgnBin op)) (fun _ _ => none) b op) a op k b
noncomputable def intOf (v : Value) : Option (IntKind × Int) :=
  @Value.rec (fun _ => Option (IntKind × Int)) (fun _ => PUnit) (fun _ => PUnit) (fun _ => none) (fun k n => some (k, n)) (fun _ _ => none) (fun _ _ _ => none) (fun _ => none)
    (fun _ => none) (fun _ _ _ => none) (fun _ => none) (fun _ => none) (fun _ _ _ _ _ => none) none (fun _ _ _ => none) none (fun _ _ => none) (fun _ _ => none) (fun _ _ => ⟨⟩) ⟨⟩ (fun _ _ _ _ => ⟨⟩) v
theorem intOf_some {v : Value} {q : IntKind × Int} (h : intOf v = some q) : v = .int q.1 q.2 := by
  cases v with
  | int k n =>
    have h : some (k, n) = some q := h
    injection h with h
    subst h; rfl
  | _ => cases h
noncomputable def binF (op : BinOp) (a b : Value) : Option Value := ob (intOf a) fun p => ob (intOf b) fun q => ifB (Nat.beq (kidx p.1) (kidx q.1)) (intBin op p.1 p.2 q.2) none
theorem pw (a b : Nat) : Nat.pow a b = a ^ b := rfl
theorem shl_run {P : Program} {k : IntKind} {x y : Nat} (hk : k.bits = 64) (hy : y ≤ 64) : pureRun P (Op.shift .shl k (Int.ofNat x) k (Int.ofNat y)) = some (.int k (k.wrap (Int.ofNat (x * 2 ^ y)))) := by
  have h0 : ¬ (Int.ofNat y < 0) := by simp
  have h1 : min (Int.ofNat y).toNat k.bits = y := by rw [hk]; simp; omega
  simp only [Op.shift, if_neg h0, h1]
  have h2 : Int.ofNat x * 2 ^ y = Int.ofNat (x * 2 ^ y) := by simp
  rw [h2]
  rfl
theorem shr_run {P : Program} {k : IntKind} {x y : Nat} (hk : k.bits = 64) (hy : y ≤ 64) : pureRun P (Op.shift .shr k (Int.ofNat x) k (Int.ofNat y)) = some (.int k (Int.ofNat (x / 2 ^ y))) := by
  have h0 : ¬ (Int.ofNat y < 0) := by simp
  have h1 : min (Int.ofNat y).toNat k.bits = y := by rw [hk]; simp; omega
  simp only [Op.shift, if_neg h0, h1]
  have h2 : (Int.ofNat x).fdiv (2 ^ y) = Int.ofNat (x / 2 ^ y) := by
    have h3 : (2 : Int) ^ y = Int.ofNat (2 ^ y) := by simp
    rw [h3]
    cases x with
    | zero => simp [Int.fdiv]
    | succ x => rfl
  rw [h2]
  rfl
theorem bits_and {x y : Nat} : IntKind.u64.wrap (((BitVec.ofInt 64 (Int.ofNat x) &&& BitVec.ofInt 64 (Int.ofNat y)).toNat : Nat) : Int) = IntKind.u64.wrap (Int.ofNat (Nat.land x y)) := by
  have e : ∀ z : Nat, BitVec.ofInt 64 (Int.ofNat z) = BitVec.ofNat 64 z := fun z => by simp
  have key : (x % 2 ^ 64 &&& y % 2 ^ 64) % 2 ^ 64 = (x &&& y) % 2 ^ 64 := by rw [← Nat.and_mod_two_pow, Nat.mod_mod]
  rw [show (2 : Nat) ^ 64 = 18446744073709551616 from rfl] at key
  rw [e, e]
  simp [IntKind.wrap, IntKind.bits, IntKind.signed]
  have e2 : Nat.land x y = x &&& y := rfl
  omega
theorem bits_or {x y : Nat} : IntKind.u64.wrap (((BitVec.ofInt 64 (Int.ofNat x) ||| BitVec.ofInt 64 (Int.ofNat y)).toNat : Nat) : Int) = IntKind.u64.wrap (Int.ofNat (Nat.lor x y)) := by
  have e : ∀ z : Nat, BitVec.ofInt 64 (Int.ofNat z) = BitVec.ofNat 64 z := fun z => by simp
  have key : (x % 2 ^ 64 ||| y % 2 ^ 64) % 2 ^ 64 = (x ||| y) % 2 ^ 64 := by rw [← Nat.or_mod_two_pow, Nat.mod_mod]
  rw [show (2 : Nat) ^ 64 = 18446744073709551616 from rfl] at key
  rw [e, e]
  simp [IntKind.wrap, IntKind.bits, IntKind.signed]
  have e2 : Nat.lor x y = x ||| y := rfl
  omega
section
variable {P : Program}
theorem pureRun_then {α β : Type} : ∀ {s : Sem α} {f : α → Sem β} {a : α}, pureRun P s = some a → pureRun P (s.bind f) = pureRun P (f a)
  | .pure _, f, b, h => by simp only [pureRun, Option.some.injEq] at h; subst h; rfl
  | .program k, f, b, h => by simp only [Sem.bind, pureRun] at h ⊢; exact pureRun_then (s := k P) h
  | .mark _ k, f, b, h => by simp only [Sem.bind, pureRun] at h ⊢; exact pureRun_then (s := k) h
  | .load .., _, _, h => by simp [pureRun] at h
  | .store .., _, _, h => by simp [pureRun] at h
  | .new .., _, _, h => by simp [pureRun] at h
  | .shape .., _, _, h => by simp [pureRun] at h
  | .freeze .., _, _, h => by simp [pureRun] at h
  | .frozen .., _, _, h => by simp [pureRun] at h
  | .getObj .., _, _, h => by simp [pureRun] at h
  | .setObj .., _, _, h => by simp [pureRun] at h
  | .choose .., _, _, h => by simp [pureRun] at h
  | .sys .., _, _, h => by simp [pureRun] at h
  | .halt _, _, _, h => by simp [pureRun] at h
theorem pureRun_guard {op : BinOp} {t : TypeId} {x y : Operand} {k l : IntKind} {a b : Int} : pureRun P (eqGuard op t x y (.int k a) (.int l b)) = some () := by
  cases op <;> rfl
theorem intCmp_run {op : BinOp} {a b : Int} {v : Value} (h : Op.intCmp op a b = pure v) : pureRun P (Op.intCmp op a b) = some v := by rw [h]; rfl
/-- Two numbers of a kind. -/
theorem binOp_run {op : BinOp} {t : TypeId} {k : IntKind} {a b : Int} {v : Value} (h : intBin op k a b = some v) : pureRun P (binOp op t (.int k a) (.int k b)) = some v ∧ plain v = true := by
  have nat : ∀ (n : Nat) (v : Value), natW k n = some v → v = .int k (k.wrap (Int.ofNat n)) ∧ plain v = true := fun n v hv => by
    have := natW_some hv
    subst this
    exact ⟨rfl, rfl⟩
  cases a with
  | ofNat x =>
    cases b with
    | ofNat y =>
      cases op with
      | add =>
        obtain ⟨h1, h2⟩ := nat _ v h
        refine ⟨?_, h2⟩
        subst h1
        simp [binOp, Op.intArith, pureRun]
        rfl
      | sub =>
        have h : ifB (Nat.ble y x) (natW k (Nat.sub x y)) (negW k (Nat.sub y x)) = some v := h
        rw [ifB_eq] at h
        cases hc : Nat.ble y x with
        | true =>
          rw [hc] at h
          have hc := Nat.le_of_ble_eq_true hc
          obtain ⟨h1, h2⟩ := nat _ v h
          refine ⟨?_, h2⟩
          subst h1
          have e : (Int.ofNat x - Int.ofNat y) = Int.ofNat (Nat.sub x y) := by
            have : Nat.sub x y = x - y := rfl
            rw [this]
            simp
            omega
          simp [binOp, Op.intArith]
          rw [show (x : Int) - (y : Int) = Int.ofNat (Nat.sub x y) from e]
          rfl
        | false =>
          rw [hc] at h
          have hc' : ¬ y ≤ x := fun e => by rw [Nat.ble_eq_true_of_le e] at hc; cases hc
          have h1 := negW_some (k := k) (d := Nat.sub y x) (v := v) (by show 0 < y - x; omega) h
          subst h1
          refine ⟨?_, rfl⟩
          have e : (x : Int) - (y : Int) = -((Nat.sub y x : Nat) : Int) := by
            have : Nat.sub y x = y - x := rfl
            rw [this]
            omega
          simp [binOp, Op.intArith]
          rw [e]
          rfl
      | mul =>
        obtain ⟨h1, h2⟩ := nat _ v h
        refine ⟨?_, h2⟩
        subst h1
        simp [binOp, Op.intArith, pureRun]
        rfl
      | and =>
        have h : ifB (ku64 k) (natW k (Nat.land x y)) none = some v := h
        obtain ⟨h1, h⟩ := ifB_some h
        obtain rfl := ku64_eq h1
        obtain ⟨h1, h2⟩ := nat _ v h
        refine ⟨?_, h2⟩
        subst h1
        rw [← bits_and]
        rfl
      | or =>
        have h : ifB (ku64 k) (natW k (Nat.lor x y)) none = some v := h
        obtain ⟨h1, h⟩ := ifB_some h
        obtain rfl := ku64_eq h1
        obtain ⟨h1, h2⟩ := nat _ v h
        refine ⟨?_, h2⟩
        subst h1
        rw [← bits_or]
        rfl
      | shl =>
        have h : ifB (k64 k) (ifB (Nat.ble y 64) (natW k (Nat.mul x (Nat.pow 2 y))) none) none = some v := h
        obtain ⟨h1, h⟩ := ifB_some h
        obtain ⟨h3, h⟩ := ifB_some h
        obtain ⟨h4, h2⟩ := nat _ v h
        refine ⟨?_, h2⟩
        subst h4
        exact shl_run (k64_bits h1) (Nat.le_of_ble_eq_true h3)
      | shr =>
        have h : ifB (k64 k) (ifB (Nat.ble y 64) (forceN (Nat.div x (Nat.pow 2 y)) fun m => some (Value.int k (Int.ofNat m))) none) none = some v := h
        obtain ⟨h1, h⟩ := ifB_some h
        obtain ⟨h3, h⟩ := ifB_some h
        rw [forceN_eq] at h
        injection h with h
        subst h
        exact ⟨shr_run (k64_bits h1) (Nat.le_of_ble_eq_true h3), rfl⟩
      | eql =>
        have h : some (Value.bool (Nat.beq x y)) = some v := h
        injection h with h
        subst h
        refine ⟨?_, rfl⟩
        have : (Int.ofNat x == Int.ofNat y) = Nat.beq x y := by
          cases hb : Nat.beq x y with
          | true => have := Nat.eq_of_beq_eq_true hb; subst this; simp
          | false => have := Nat.ne_of_beq_eq_false hb; simp; omega
        simp only [binOp, ne_eq, not_true_eq_false, if_false, Op.intCmp, this]
        rfl
      | neq =>
        have h : some (Value.bool (ifB (Nat.beq x y) false true)) = some v := h
        injection h with h
        subst h
        refine ⟨?_, rfl⟩
        have : (Int.ofNat x != Int.ofNat y) = ifB (Nat.beq x y) false true := by
          cases hb : Nat.beq x y with
          | true => have := Nat.eq_of_beq_eq_true hb; subst this; simp [ifB_eq]
          | false => have := Nat.ne_of_beq_eq_false hb; simp [ifB_eq]; omega
        simp only [binOp, ne_eq, not_true_eq_false, if_false, Op.intCmp, this]
        rfl
      | lss =>
        have h : some (Value.bool (Nat.ble (Nat.succ x) y)) = some v := h
        injection h with h
        subst h
        refine ⟨?_, rfl⟩
        have : decide (Int.ofNat x < Int.ofNat y) = Nat.ble (Nat.succ x) y := by
          rw [Bool.eq_iff_iff]; simp; omega
        simp only [binOp, ne_eq, not_true_eq_false, if_false, Op.intCmp, this]
        rfl
      | leq =>
        have h : some (Value.bool (Nat.ble x y)) = some v := h
        injection h with h
        subst h
        refine ⟨?_, rfl⟩
        have : decide (Int.ofNat x ≤ Int.ofNat y) = Nat.ble x y := by
          rw [Bool.eq_iff_iff]; simp
        simp only [binOp, ne_eq, not_true_eq_false, if_false, Op.intCmp, this]
        rfl
      | gtr =>
        have h : some (Value.bool (Nat.ble (Nat.succ y) x)) = some v := h
        injection h with h
        subst h
        refine ⟨?_, rfl⟩
        have : decide (Int.ofNat x > Int.ofNat y) = Nat.ble (Nat.succ y) x := by
          rw [Bool.eq_iff_iff]; simp; omega
        simp only [binOp, ne_eq, not_true_eq_false, if_false, Op.intCmp, this]
        rfl
      | geq =>
        have h : some (Value.bool (Nat.ble y x)) = some v := h
        injection h with h
        subst h
        refine ⟨?_, rfl⟩
        have : decide (Int.ofNat x ≥ Int.ofNat y) = Nat.ble y x := by
          rw [Bool.eq_iff_iff]; simp
        simp only [binOp, ne_eq, not_true_eq_false, if_false, Op.intCmp, this]
        rfl
      | _ => cases h
    | negSucc y =>
      have c1 : (Int.ofNat x == Int.negSucc y) = false := rfl
      have c2 : (Int.ofNat x != Int.negSucc y) = true := rfl
      have c3 : decide (Int.ofNat x < Int.negSucc y) = false := by simp; omega
      have c4 : decide (Int.ofNat x ≤ Int.negSucc y) = false := by simp; omega
      have c5 : decide (Int.ofNat x > Int.negSucc y) = true := by simp; omega
      have c6 : decide (Int.ofNat x ≥ Int.negSucc y) = true := by simp; omega
      cases op <;> first
        | (cases h; done)
        | (injection h with h
           subst h
           refine ⟨?_, rfl⟩
           simp only [binOp, ne_eq, not_true_eq_false, if_false, Op.intCmp, c1, c2, c3, c4, c5, c6]
           rfl)
  | negSucc x =>
    cases b with
    | ofNat y =>
      have c1 : (Int.negSucc x == Int.ofNat y) = false := rfl
      have c2 : (Int.negSucc x != Int.ofNat y) = true := rfl
      have c3 : decide (Int.negSucc x < Int.ofNat y) = true := by simp; omega
      have c4 : decide (Int.negSucc x ≤ Int.ofNat y) = true := by simp; omega
      have c5 : decide (Int.negSucc x > Int.ofNat y) = false := by simp; omega
      have c6 : decide (Int.negSucc x ≥ Int.ofNat y) = false := by simp; omega
      cases op <;> first
        | (cases h; done)
        | (injection h with h
           subst h
           refine ⟨?_, rfl⟩
           simp only [binOp, ne_eq, not_true_eq_false, if_false, Op.intCmp, c1, c2, c3, c4, c5, c6]
           rfl)
    | negSucc y => cases h
theorem binF_fbk {S : St} {ρ : Operand → Option Value} {o : Oper} {op : BinOp} {t u : TypeId} {x y : Operand} {a b v : Value} (ho : o.op = .binOp op t x y u) (hx : ρ x = some a) (hy : ρ y = some b) (h : binF op a b = some v) :
    plain a = true ∧ plain b = true ∧ fbk P S ρ o = some (.val v S) := by
  obtain ⟨p, h1, h⟩ := ob_some h
  obtain ⟨q, h2, h⟩ := ob_some h
  obtain ⟨h3, h6⟩ := ifB_some h
  obtain ⟨k, m⟩ := p
  obtain ⟨l, n⟩ := q
  have e1 : a = .int k m := intOf_some h1
  have e2 : b = .int l n := intOf_some h2
  subst e1; subst e2
  obtain rfl : k = l := kidx_eq h3
  obtain ⟨h4, h5⟩ := binOp_run (P := P) (t := t) h6
  refine ⟨rfl, rfl, ?_⟩
  unfold fbk
  have hpl : plainAll ρ o.op.operands.toList = true := by
    rw [ho]
    simp only [plainAll, Op.operands, List.all_cons, List.all_nil, hx, hy]
    rfl
  have hs : isSelect o.op = false := by rw [ho]; rfl
  rw [hpl, hs]
  have hrun : pureRun P (execOp (fun x => (ρ x).getD undef) o) = some (.value v) := by
    have e : execOp (fun x => (ρ x).getD undef) o = ((eqGuard op t x y (.int k m) (.int k n)).bind fun _ => binOp op t (.int k m) (.int k n)).bind fun a => pure (.value a) := by
      simp only [execOp, ho, hx, hy, Option.getD_some]
      rfl
    rw [e, pureRun_then (a := v)]
    · rfl
    · rw [pureRun_then pureRun_guard]
      exact h4
  rw [hrun]
  simp only [Bool.not_false, Bool.and_true, cond_true, h5]
end
end Go.Proofs.YtigkndbkaagboaaGreatDoor.Ev
end
section
namespace Go.Proofs.YtigkndbkaagboaaGreatDoor.Ev
open Go hiding Obj
set_option linter.unusedVariables false
set_option linter.unusedSimpArgs false
set_option linter.unusedSectionVars false
variable [Gl]
abbrev RS := Option (Value × St)
abbrev SF := Program → CallF → Env → St → Oper → RS
/-- An operation, as it was. -/
noncomputable def slowF : SF := fun P call e S o =>
  match aop P S (opd e) o with
  | some (.val v S') => some (v, S')
  | some (.call f args) => call f args S
  | none => none
noncomputable def oe {α : Type} (x y : Option α) : Option α := @Option.rec α (fun _ => Option α → Option α) (fun y => y) (fun v _ => some v) x y
theorem oe_some {α : Type} {x y : Option α} {v : α} (h : oe x y = some v) : x = some v ∨ (x = none ∧ y = some v) := by
  cases x with
  | none => exact .inr ⟨rfl, h⟩
  | some a => exact .inl h
/-- The cells of a value. -/
noncomputable def cellsV (v : Value) : List Value :=
  @Value.rec (fun _ => Value → List Value) (fun _ => PUnit) (fun _ => PUnit) (fun _ v => [v]) (fun _ _ v => [v]) (fun _ _ v => [v]) (fun _ _ _ v => [v]) (fun _ v => [v]) (fun _ v => [v])
    (fun _ _ _ v => [v]) (fun _ v => [v]) (fun _ v => [v]) (fun _ _ _ _ _ v => [v]) (fun v => [v]) (fun _ _ _ v => [v]) (fun v => [v]) (fun c _ _ => c.toList) (fun _ _ v => [v]) (fun _ _ => ⟨⟩) ⟨⟩ (fun _ _ _ _ => ⟨⟩) v v
theorem cellsV_eq (v : Value) : cellsV v = v.cells.toList := by cases v <;> rfl
noncomputable def alcF (S : St) (e : TypeId) (cs : List Value) : RS := ifB (allF cs) (@St.rec (fun _ => TypeId → List Value → RS) (fun h n e cs => forceN n fun i => some (.pointer (some ⟨i, 0, none⟩), ⟨h.ins i (.cells cs e 0), Nat.add i 2⟩)) S e cs) none
theorem alcF_some {S : St} {e : TypeId} {cs : List Value} {r : Value × St} (h : alcF S e cs = some r) : alc S e cs = some r := by
  obtain ⟨h1, h⟩ := ifB_some h
  obtain ⟨hp, n⟩ := S
  have h : (forceN n fun i => some (Value.pointer (some ⟨i, 0, none⟩), (⟨hp.ins i (.cells cs e 0), Nat.add i 2⟩ : St))) = some r := h
  rw [forceN_eq] at h
  unfold alc
  rw [← allF_eq, h1]
  exact h
/-- A variable's first cells. -/
noncomputable def zeroCs (P : Program) (e : TypeId) : Option (List Value) := match infoF P e with | some i => (match i.zero with | some z => bif plain z then some z.cells.toList else none | none => none) | none => none
/-- To what kind of number a number is converted. -/
noncomputable def cvtK (P : Program) (src dst : TypeId) : Option IntKind :=
  match undF P src, undF P dst with
  | some (.int _), some (.int k) => some k
  | _, _ => none
noncomputable def opndsF (e : Env) (l : List Operand) : Option (List Value) := @List.rec Operand (fun _ => Env → Option (List Value)) (fun _ => some []) (fun x _ ih e => ob (opdF e x) fun v => ob (ih e) fun vs => some (v :: vs)) l e
theorem opndsF_some {e : Env} : ∀ {l : List Operand} {vs : List Value}, opndsF e l = some vs → opnds (opd e) l = some vs
  | [], vs, h => h
  | x :: l, vs, h => by
    have h : ob (opdF e x) (fun v => ob (opndsF e l) fun vs => some (v :: vs)) = some vs := h
    obtain ⟨v, h1, h⟩ := ob_some h
    obtain ⟨ws, h2, h⟩ := ob_some h
    rw [opdF_eq] at h1
    simp only [opnds, h1, opndsF_some h2]
    exact h
/-- The function that is called, where that is plain to see. -/
noncomputable def entersF (P : Program) (f : FuncId) : Bool := match funcF P f with | some fn => !(fn.name == "runtime.NumGoroutine") && fn.body.isSome | none => false
theorem entersF_eq (P : Program) (f : FuncId) : entersF P f = enters P f := by unfold entersF enters; rw [funcF_eq]; rfl
noncomputable def calleeOf (P : Program) (c : Callee) : Option FuncId := match c with | .value (.func f) => bif entersF P f then some f else none | _ => none
noncomputable def boolOf (v : Value) : Option Bool :=
  @Value.rec (fun _ => Option Bool) (fun _ => PUnit) (fun _ => PUnit) (fun b => some b) (fun _ _ => none) (fun _ _ => none) (fun _ _ _ => none) (fun _ => none) (fun _ => none)
    (fun _ _ _ => none) (fun _ => none) (fun _ => none) (fun _ _ _ _ _ => none) none (fun _ _ _ => none) none (fun _ _ => none) (fun _ _ => none) (fun _ _ => ⟨⟩) ⟨⟩ (fun _ _ _ _ => ⟨⟩) v
theorem boolOf_some {v : Value} {b : Bool} (h : boolOf v = some b) : v = .bool b := by
  cases v with
  | bool c =>
    have h : some c = some b := h
    injection h with h
    subst h; rfl
  | _ => cases h
/-- What a check for nil lets by. -/
noncomputable def notNil (v : Value) : Bool :=
  @Value.rec (fun _ => Bool) (fun _ => PUnit) (fun _ => PUnit) (fun _ => false) (fun _ _ => false) (fun _ _ => false) (fun _ _ _ => false) (fun _ => false) (fun a => @Option.rec Addr (fun _ => Bool) false (fun _ => true) a)
    (fun _ _ _ => false) (fun _ => false) (fun _ => false) (fun _ _ _ _ _ => false) false (fun _ _ _ => true) false (fun _ _ => false) (fun _ _ => false) (fun _ _ => ⟨⟩) ⟨⟩ (fun _ _ _ _ => ⟨⟩) v
theorem notNil_some {v : Value} (h : notNil v = true) : (∃ a, v = .pointer (some a)) ∨ ∃ t x, v = .iface t x := by
  cases v with
  | pointer a =>
    cases a with
    | none => cases h
    | some a => exact .inl ⟨a, rfl⟩
  | iface t x => exact .inr ⟨t, x, rfl⟩
  | _ => cases h
noncomputable def stepF : SF := fun P call e S o =>
  @Op.rec (fun _ => SF)
    (fun x _ _ e S _ => ob (opdF e x) fun v => some (v, S))
    (fun x _ _ e S _ => ob (opdF e x) fun v => some (v, S))
    (fun c a b _ _ e S _ => ob (opdF e c) fun t => ob (opdF e a) fun va => ob (opdF e b) fun vb => ob (boolOf t) fun t => some (ifB t va vb, S))
    (fun t P _ _ S _ => ob (zeroCs P t) fun cs => alcF S t cs)
    (fun t x _ _ e S _ => ob (opdF e x) fun v => alcF S t (cellsV v))
    (fun _ _ => slowF) (fun _ _ _ => slowF) (fun _ _ _ _ => slowF)
    (fun t a P _ e S _ => ob (opdF e a) fun v => ob (ldF P S t v) fun x => some (x, S))
    (fun t a x P _ e S _ => ob (opdF e a) fun v => ob (opdF e x) fun u => ob (stoF P S t v u) fun S' => some (undef, S'))
    (fun _ => slowF) (fun _ => slowF)
    (fun x P call e S o => ob (opdF e x) fun v => ifB (notNil v) (some (v, S)) (slowF P call e S o))
    (fun op _ x y _ P call e S o => ob (opdF e x) fun a => ob (opdF e y) fun b => oe (ob (binF op a b) fun v => some (v, S)) (slowF P call e S o))
    (fun _ _ _ => slowF)
    (fun src dst x P call e S o => oe (ob (cvtK P src dst) fun k => ob (opdF e x) fun v => ob (natOf v) fun n => ob (natW k n) fun u => some (u, S)) (slowF P call e S o))
    (fun _ _ => slowF) (fun _ _ => slowF) (fun _ _ _ => slowF) (fun _ _ => slowF) (fun _ _ => slowF) (fun _ _ _ => slowF) (fun _ _ _ _ _ => slowF)
    (fun s x f P _ e S _ => ob (opdF e x) fun v => ob (flaF P s v f) fun u => some (u, S))
    (fun t x f P _ e S _ => ob (opdF e x) fun v => ob (fldF P t v f) fun u => some (u, S))
    (fun t x i P _ e S _ => ob (opdF e x) fun v => ob (opdF e i) fun j => ob (ixaF P t v j) fun u => some (u, S))
    (fun _ _ _ => slowF) (fun _ _ _ _ => slowF) (fun _ _ _ _ => slowF) (fun _ _ _ => slowF) (fun _ _ _ _ => slowF) (fun _ _ => slowF) (fun _ _ => slowF) (fun _ => slowF) (fun _ _ _ _ => slowF)
    (fun x i _ _ e S _ => ob (opdF e x) fun v => ob (tupOf v) fun vs => ob (nthF i vs) fun u => some (u, S))
    (fun c P call e S o => @Option.rec FuncId (fun _ => Call → SF) (fun _ => slowF) (fun f c _ call e S _ => ob (opndsF e c.args.toList) fun args => call f args S) (calleeOf P c.callee) c P call e S o)
    (fun _ => slowF) (fun _ => slowF) (fun _ => slowF) (fun _ _ => slowF) (fun _ _ _ => slowF) (fun _ _ => slowF) o.op P call e S o
section
variable {P : Program}
theorem natW_plain {k : IntKind} {n : Nat} {v : Value} (h : natW k n = some v) : plain v = true := by rw [natW_some h]; rfl
/-- A number that is converted. -/
theorem cvt_slow {call : CallF} {e : Env} {S : St} {o : Oper} {src dst : TypeId} {x : Operand} {k : IntKind} {v u : Value} {n : Nat} (ho : o.op = .convert src dst x) (hk : cvtK P src dst = some k) (hx : opd e x = some v) (hn : natOf v = some n) (hu : natW k n = some u) :
    slowF P call e S o = some (u, S) := by
  obtain ⟨l, rfl⟩ := natOf_some hn
  have hpu := natW_plain hu
  have hv := natW_some hu
  unfold cvtK at hk
  simp only [infoF_eq, undF_eq] at hk
  split at hk
  case h_2 => cases hk
  rename_i k1 k2 hs hd
  injection hk with hk
  subst hk
  have hcv : cvt P S src dst (.int l (.ofNat n)) = none := by
    simp only [cvt, hs, hd]
  have hf : fbk P S (opd e) o = some (.val u S) := by
    unfold fbk
    have hpl : plainAll (opd e) o.op.operands.toList = true := by
      rw [ho]
      simp only [plainAll, Op.operands, List.all_cons, List.all_nil, hx]
      rfl
    have hsel : isSelect o.op = false := by rw [ho]; rfl
    have hrun : pureRun P (execOp (fun x => (opd e x).getD undef) o) = some (.value u) := by
      have e1 : execOp (fun x => (opd e x).getD undef) o = (convert src dst (.int l (.ofNat n))).bind fun a => pure (.value a) := by
        simp only [execOp, ho, hx, Option.getD_some]
        rfl
      have hund : ∀ t d, P.underlying t = some d → pureRun P (underlying t) = some d := fun t d h => by
        show pureRun P (match P.underlying t with | some d => pure d | none => stuck "no such type") = some d
        rw [h]
        rfl
      have hus := hund _ _ hs
      have hud := hund _ _ hd
      have e2 : pureRun P (convert src dst (.int l (.ofNat n))) = some u := by
        unfold convert
        refine (pureRun_then hus).trans ?_
        refine (pureRun_then hud).trans ?_
        subst hv
        rfl
      rw [e1, pureRun_then e2]
      rfl
    rw [hpl, hsel, hrun]
    simp only [Bool.not_false, Bool.and_true, cond_true, hpu]
  unfold slowF aop
  simp only [ho, hx, hcv, hf]
theorem stepF_slow {call : CallF} {e : Env} {S : St} {o : Oper} {r : Value × St} (h : stepF P call e S o = some r) : slowF P call e S o = some r := by
  cases ho : o.op with
  | move x =>
    unfold stepF at h
    rw [ho] at h
    have h : ob (opdF e x) (fun v => some (v, S)) = some r := h
    obtain ⟨v, h1, h⟩ := ob_some h
    rw [opdF_eq] at h1
    unfold slowF aop
    simp only [ho, h1, outV]
    exact h
  | assign x =>
    unfold stepF at h
    rw [ho] at h
    have h : ob (opdF e x) (fun v => some (v, S)) = some r := h
    obtain ⟨v, h1, h⟩ := ob_some h
    rw [opdF_eq] at h1
    unfold slowF aop
    simp only [ho, h1, outV]
    exact h
  | pick c a b =>
    unfold stepF at h
    rw [ho] at h
    have h : ob (opdF e c) (fun t => ob (opdF e a) fun va => ob (opdF e b) fun vb => ob (boolOf t) fun t => some (ifB t va vb, S)) = some r := h
    obtain ⟨t, h1, h⟩ := ob_some h
    obtain ⟨va, h2, h⟩ := ob_some h
    obtain ⟨vb, h3, h⟩ := ob_some h
    obtain ⟨q, h4, h⟩ := ob_some h
    rw [opdF_eq] at h1 h2 h3
    obtain rfl := boolOf_some h4
    unfold slowF aop
    simp only [ho, h1, h2, h3]
    cases q <;> exact h
  | alloc t =>
    unfold stepF at h
    rw [ho] at h
    have h : ob (zeroCs P t) (fun cs => alcF S t cs) = some r := h
    obtain ⟨cs, h1, h⟩ := ob_some h
    have h := alcF_some h
    have hzc : ∀ i, infoF P t = some i → i.zero = zeroOf P t := fun i hi => by
      rw [infoF_eq] at hi
      unfold zeroOf
      rw [hi]
    unfold zeroCs at h1
    split at h1
    case h_2 => cases h1
    rename_i ii hii
    rw [hzc ii hii] at h1
    split at h1
    · rename_i z hz
      cases hp : plain z with
      | false => rw [hp] at h1; cases h1
      | true =>
        rw [hp] at h1
        injection h1 with h1
        subst h1
        unfold slowF aop
        simp only [ho, hz, hp, cond_true, h, outVS]
    · cases h1
  | box t x =>
    unfold stepF at h
    rw [ho] at h
    have h : ob (opdF e x) (fun v => alcF S t (cellsV v)) = some r := h
    obtain ⟨v, h1, h⟩ := ob_some h
    have h := alcF_some h
    rw [opdF_eq] at h1
    rw [cellsV_eq] at h
    unfold slowF aop
    simp only [ho, h1, h, outVS]
  | load t a =>
    unfold stepF at h
    rw [ho] at h
    have h : ob (opdF e a) (fun v => ob (ldF P S t v) fun x => some (x, S)) = some r := h
    obtain ⟨v, h1, h⟩ := ob_some h
    obtain ⟨x, h2, h⟩ := ob_some h
    rw [opdF_eq] at h1
    unfold slowF aop
    simp only [ho, h1, ldF_some h2, outV]
    exact h
  | store t a x =>
    unfold stepF at h
    rw [ho] at h
    have h : ob (opdF e a) (fun v => ob (opdF e x) fun u => ob (stoF P S t v u) fun S' => some (undef, S')) = some r := h
    obtain ⟨v, h1, h⟩ := ob_some h
    obtain ⟨u, h2, h⟩ := ob_some h
    obtain ⟨S', h3, h⟩ := ob_some h
    rw [opdF_eq] at h1 h2
    unfold slowF aop
    simp only [ho, h1, h2, stoF_some h3, outS]
    exact h
  | nilCheck x =>
    unfold stepF at h
    rw [ho] at h
    have h : ob (opdF e x) (fun v => ifB (notNil v) (some (v, S)) (slowF P call e S o)) = some r := h
    obtain ⟨v, h1, h⟩ := ob_some h
    rw [opdF_eq] at h1
    cases hn : notNil v with
    | false => rw [hn] at h; exact h
    | true =>
      rw [hn] at h
      unfold slowF aop
      rcases notNil_some hn with ⟨a, rfl⟩ | ⟨t, y, rfl⟩
      · simp only [ho, h1]; exact h
      · simp only [ho, h1]; exact h
  | binOp op t x y u =>
    unfold stepF at h
    rw [ho] at h
    have h : ob (opdF e x) (fun a => ob (opdF e y) fun b => oe (ob (binF op a b) fun v => some (v, S)) (slowF P call e S o)) = some r := h
    obtain ⟨a, h1, h⟩ := ob_some h
    obtain ⟨b, h2, h⟩ := ob_some h
    rw [opdF_eq] at h1 h2
    rcases oe_some h with h | ⟨_, h⟩
    · obtain ⟨v, h3, h⟩ := ob_some h
      obtain ⟨p1, p2, p3⟩ := binF_fbk (P := P) (S := S) (ρ := opd e) ho h1 h2 h3
      unfold slowF aop
      simp only [ho, h1, h2, p1, p2, p3, Bool.and_true, cond_true]
      exact h
    · exact h
  | convert src dst x =>
    unfold stepF at h
    rw [ho] at h
    have h : oe (ob (cvtK P src dst) fun k => ob (opdF e x) fun v => ob (natOf v) fun n => ob (natW k n) fun u => some (u, S)) (slowF P call e S o) = some r := h
    rcases oe_some h with h | ⟨_, h⟩
    · obtain ⟨k, h1, h⟩ := ob_some h
      obtain ⟨v, h2, h⟩ := ob_some h
      obtain ⟨n, h3, h⟩ := ob_some h
      obtain ⟨u, h4, h⟩ := ob_some h
      rw [opdF_eq] at h2
      rw [cvt_slow ho h1 h2 h3 h4]
      exact h
    · exact h
  | fieldAddr s x f =>
    unfold stepF at h
    rw [ho] at h
    have h : ob (opdF e x) (fun v => ob (flaF P s v f) fun u => some (u, S)) = some r := h
    obtain ⟨v, h1, h⟩ := ob_some h
    obtain ⟨u, h2, h⟩ := ob_some h
    rw [opdF_eq] at h1
    unfold slowF aop
    simp only [ho, h1, flaF_some h2, outV]
    exact h
  | field t x f =>
    unfold stepF at h
    rw [ho] at h
    have h : ob (opdF e x) (fun v => ob (fldF P t v f) fun u => some (u, S)) = some r := h
    obtain ⟨v, h1, h⟩ := ob_some h
    obtain ⟨u, h2, h⟩ := ob_some h
    rw [opdF_eq] at h1
    unfold slowF aop
    simp only [ho, h1, fldF_some h2, outV]
    exact h
  | indexAddr t x i =>
    unfold stepF at h
    rw [ho] at h
    have h : ob (opdF e x) (fun v => ob (opdF e i) fun j => ob (ixaF P t v j) fun u => some (u, S)) = some r := h
    obtain ⟨v, h1, h⟩ := ob_some h
    obtain ⟨j, h2, h⟩ := ob_some h
    obtain ⟨u, h3, h⟩ := ob_some h
    rw [opdF_eq] at h1 h2
    have hs : scalar j = true := by
      obtain ⟨n, g1, _⟩ : ∃ n, natOf j = some n ∧ True := by
        obtain ⟨q, g1, g2⟩ := ob_some h3
        obtain ⟨n, g3, _⟩ := ob_some g2
        exact ⟨n, g3, trivial⟩
      obtain ⟨k, rfl⟩ := natOf_some g1
      rfl
    unfold slowF aop
    simp only [ho, h1, h2, hs, cond_true, ixaF_some h3, outV]
    exact h
  | extract x i =>
    unfold stepF at h
    rw [ho] at h
    have h : ob (opdF e x) (fun v => ob (tupOf v) fun vs => ob (nthF i vs) fun u => some (u, S)) = some r := h
    obtain ⟨v, h1, h⟩ := ob_some h
    obtain ⟨vs, h2, h⟩ := ob_some h
    obtain ⟨u, h3, h5⟩ := ob_some h
    rw [opdF_eq] at h1
    obtain ⟨a, rfl, rfl⟩ := tupOf_some h2
    rw [nthF_eq] at h3
    have h4 : a[i]? = some u := by simpa using h3
    unfold slowF aop
    simp only [ho, h1, h4, outV]
    exact h5
  | call c =>
    unfold stepF at h
    rw [ho] at h
    have h : @Option.rec FuncId (fun _ => Call → SF) (fun _ => slowF) (fun f c _ call e S _ => ob (opndsF e c.args.toList) fun args => call f args S) (calleeOf P c.callee) c P call e S o = some r := h
    cases hc : calleeOf P c.callee with
    | none => rw [hc] at h; exact h
    | some f =>
      rw [hc] at h
      have h : ob (opndsF e c.args.toList) (fun args => call f args S) = some r := h
      obtain ⟨args, h1, h⟩ := ob_some h
      unfold calleeOf at hc
      split at hc
      · rename_i g hg
        rw [entersF_eq] at hc
        cases he : enters P g with
        | false => rw [he] at hc; cases hc
        | true =>
          rw [he] at hc
          injection hc with hc
          subst hc
          unfold slowF aop
          simp only [ho, opndsF_some h1, hg, opd, callA, he, cond_true]
          simpa using h
      · cases hc
  | _ => unfold stepF at h; rw [ho] at h; exact h
end
end Go.Proofs.YtigkndbkaagboaaGreatDoor.Ev
end
section
namespace Go.Proofs.YtigkndbkaagboaaGreatDoor.Ev
open Go hiding Obj
set_option linter.unusedVariables false
set_option linter.unusedSimpArgs false
set_option linter.unusedSectionVars false
variable [Gl]
noncomputable def obp {α β γ : Type} (x : Option (α × β)) (f : α → β → Option γ) : Option γ := @Option.rec (α × β) (fun _ => Option γ) none (fun p => @Prod.rec α β (fun _ => Option γ) f p) x
theorem obp_some {α β γ : Type} {x : Option (α × β)} {f : α → β → Option γ} {c : γ} (h : obp x f = some c) : ∃ a b, x = some (a, b) ∧ f a b = some c := by
  cases x with
  | none => cases h
  | some p => obtain ⟨a, b⟩ := p; exact ⟨a, b, rfl, h⟩
noncomputable def beqB (b c : Bool) : Bool := ifB b c (ifB c false true)
theorem beqB_eq (b c : Bool) : beqB b c = (b == c) := by cases b <;> cases c <;> rfl
noncomputable def gdF (ops : Array Oper) (g : Nat × Bool) : Option (Tmp × Bool) := match (nthF g.1 ops.toList).bind (·.dst) with | some d => some (d, g.2) | none => none
noncomputable def stepOpF (P : Program) (call : CallF) (ops : Array Oper) (e : Env) (S : St) (o : Oper) : RS :=
  @Option.rec (Nat × Bool) (fun _ => Array Oper → SF) (fun _ => stepF)
    (fun g ops P call e S o => ob (gdF ops g) fun q => ob (e.at q.1) fun v => @Option.rec Bool (fun _ => RS) (some (undef, S)) (fun b => ifB (beqB b q.2) (stepF P call e S o) (some (undef, S))) (boolOf v)) o.guard ops P call e S o
/-- One call does at least what the other does. -/
abbrev CLe (c d : CallF) : Prop := ∀ f args S r, c f args S = some r → d f args S = some r
section
variable {P : Program}
theorem slowF_mono {c d : CallF} (h : CLe c d) {e : Env} {S : St} {o : Oper} {r : Value × St} (hs : slowF P c e S o = some r) : slowF P d e S o = some r := by
  unfold slowF at hs ⊢
  split at hs
  · exact hs
  · exact h _ _ _ _ hs
  · cases hs
theorem stepOpF_some {c d : CallF} (h : CLe c d) {ops : Array Oper} {e : Env} {S : St} {o : Oper} {r : Value × St} (hs : stepOpF P c ops e S o = some r) : stepOp P d ops e S o = some r := by
  unfold stepOpF at hs
  cases hg : o.guard with
  | none =>
    rw [hg] at hs
    have hs := slowF_mono h (stepF_slow (show stepF P c e S o = some r from hs))
    unfold stepOp want
    rw [hg]
    exact hs
  | some g =>
    rw [hg] at hs
    have hs : ob (gdF ops g) (fun q => ob (e.at q.1) fun v => @Option.rec Bool (fun _ => RS) (some (undef, S)) (fun b => ifB (beqB b q.2) (stepF P c e S o) (some (undef, S))) (boolOf v)) = some r := hs
    obtain ⟨q, h1, hs⟩ := ob_some hs
    obtain ⟨v, h2, h9⟩ := ob_some hs
    clear hs
    obtain ⟨j, w⟩ := g
    unfold gdF at h1
    rw [nthF_eq, Array.getElem?_toList] at h1
    unfold stepOp want
    rw [hg]
    simp only at h1 ⊢
    split at h1
    · rename_i t ht
      injection h1 with h1
      subst h1
      rw [ht]
      simp only [h2]
      have h9 : @Option.rec Bool (fun _ => RS) (some (undef, S)) (fun b => ifB (beqB b w) (stepF P c e S o) (some (undef, S))) (boolOf v) = some r := h9
      cases hb : boolOf v with
      | none =>
        rw [hb] at h9
        cases v with
        | bool b => cases hb
        | _ => exact h9
      | some b =>
        obtain rfl := boolOf_some hb
        rw [hb] at h9
        have h9 : ifB (beqB b w) (stepF P c e S o) (some (undef, S)) = some r := h9
        rw [beqB_eq] at h9
        cases hb : (b == w) with
        | true =>
          rw [hb] at h9
          simp only [hb]
          exact slowF_mono h (stepF_slow (show stepF P c e S o = some r from h9))
        | false =>
          rw [hb] at h9
          simp only [hb]
          exact h9
    · cases h1
noncomputable def evOpsF (P : Program) (call : CallF) (ops : Array Oper) (l : List Oper) (e : Env) (S : St) : Option (Env × St) :=
  @List.rec Oper (fun _ => Env → St → Option (Env × St)) (fun e S => some (e, S)) (fun o _ ih e S => obp (stepOpF P call ops e S o) fun v S' => ih (e.upF o.dst v) S') l e S
theorem evOpsF_some {c d : CallF} (h : CLe c d) {ops : Array Oper} : ∀ {l : List Oper} {e : Env} {S : St} {r : Env × St}, evOpsF P c ops l e S = some r → evOps P d ops l e S = some r
  | [], e, S, r, hs => hs
  | o :: l, e, S, r, hs => by
    have hs : obp (stepOpF P c ops e S o) (fun v S' => evOpsF P c ops l (e.upF o.dst v) S') = some r := hs
    obtain ⟨v, S', h1, h2⟩ := obp_some hs
    rw [Env.upF_eq] at h2
    simp only [evOps, stepOpF_some h h1]
    exact evOpsF_some h h2
structure Plan where
  ord : List Nat
  needs : List (List Nat)
noncomputable def opAt (ops : Array Oper) (i : Nat) : Option Oper := nthF i ops.toList
theorem opAt_eq (ops : Array Oper) (i : Nat) : opAt ops i = ops[i]? := by rw [opAt, nthF_eq, Array.getElem?_toList]
noncomputable def runTF (P : Program) (call : CallF) (ops : Array Oper) (l : List Nat) (k : Nat) (e : Env) (S : St) : Option (List TE × Env × St) :=
  @List.rec Nat (fun _ => Nat → Env → St → Option (List TE × Env × St)) (fun _ e S => some ([], e, S))
    (fun i _ ih k e S => ob (opAt ops i) fun o => obp (stepOpF P call ops e S o) fun v S' =>
      ifB (ifB (isQ o.op) (Nat.beq S'.next S.next) true) (obp (ih (ifB (isQ o.op) k (Nat.add k 1)) (e.upF o.dst v) S') fun T q => some (⟨i, e, S, v, S', k⟩ :: T, q)) none) l k e S
theorem runTF_some {c d : CallF} (h : CLe c d) {ops : Array Oper} : ∀ {l : List Nat} {k : Nat} {e : Env} {S : St} {r : List TE × Env × St}, runTF P c ops l k e S = some r → runT P d ops l k e S = some r
  | [], k, e, S, r, hs => hs
  | i :: l, k, e, S, r, hs => by
    have hs : ob (opAt ops i) (fun o => obp (stepOpF P c ops e S o) fun v S' =>
      ifB (ifB (isQ o.op) (Nat.beq S'.next S.next) true) (obp (runTF P c ops l (ifB (isQ o.op) k (Nat.add k 1)) (e.upF o.dst v) S') fun T q => some (⟨i, e, S, v, S', k⟩ :: T, q)) none) = some r := hs
    obtain ⟨o, h1, hs⟩ := ob_some hs
    obtain ⟨v, S', h2, hs⟩ := obp_some hs
    obtain ⟨h3, hs⟩ := ifB_some hs
    obtain ⟨T, q, h4, h5⟩ := obp_some hs
    have h4 := runTF_some h h4
    rw [Env.upF_eq] at h4
    rw [opAt_eq] at h1
    unfold runT
    simp only [h1, stepOpF_some h h2]
    rw [ifB_eq] at h3 h4
    cases hq : isQ o.op with
    | true =>
      rw [hq] at h3 h4
      simp only [cond_true] at h3 h4
      simp only [h3, Bool.not_true, Bool.and_false, cond_false, cond_true, h4]
      exact h5
    | false =>
      rw [hq] at h3 h4
      simp only [cond_false] at h4
      have h4' : runT P d ops l (k + 1) (e.up o.dst v) S' = some (T, q) := h4
      simp only [Bool.false_and, cond_false, h4']
      exact h5
noncomputable def stagesF (ops : Array Oper) (S0 : St) (T : List TE) : List St := S0 :: @List.rec TE (fun _ => List St) [] (fun t _ ih => ifB (isSeq ops t.i) (t.S' :: ih) ih) T
theorem stagesF_eq (ops : Array Oper) (S0 : St) (T : List TE) : stagesF ops S0 T = stages ops S0 T := by
  unfold stagesF stages
  congr 1
  induction T with
  | nil => rfl
  | cons t T ih =>
    show ifB (isSeq ops t.i) (t.S' :: _) _ = _
    rw [ih, ifB_eq]
    cases hs : isSeq ops t.i <;> simp [hs]
noncomputable def chkp (P : Program) (call : CallF) (ops : Array Oper) (stg : List St) (t : TE) (p : Nat) : Option Unit :=
  ob (nthF p stg) fun Sp => ob (opAt ops t.i) fun o => obp (stepOpF P call ops t.env Sp o) fun v S' => ifB (veq v t.v) (ifB (Nat.beq S'.next Sp.next) (some ()) none) none
noncomputable def chk1 (P : Program) (call : CallF) (ops : Array Oper) (stg : List St) (t : TE) (ps : List Nat) : Option Unit :=
  @List.rec Nat (fun _ => Option Unit) (some ()) (fun p _ ih => ob (chkp P call ops stg t p) fun _ => ih) ps
noncomputable def chkF (P : Program) (call : CallF) (ops : Array Oper) (stg : List St) (T : List TE) (ns : List (List Nat)) : Option Unit :=
  @List.rec TE (fun _ => List (List Nat) → Option Unit) (fun _ => some ()) (fun t _ ih ns => @List.rec (List Nat) (fun _ => Option Unit) none (fun ps rest _ => ob (chk1 P call ops stg t ps) fun _ => ih rest) ns) T ns
/-- What must be looked at again. -/
def needsR (ops : Array Oper) (b sq : List Nat) (n1 : Nat) : List Nat → Nat → List (List Nat)
  | [], _ => []
  | i :: is, k =>
    (match ops[i]? with
    | some o => bif isQ o.op && !isN o.op then (List.range n1).filter (fun p => !(Nat.beq p k) && mayBe b sq i p) else []
    | none => []) :: needsR ops b sq n1 is (match ops[i]? with | some o => bif isQ o.op then k else k + 1 | none => k)
theorem chk1_mem {c : CallF} {ops : Array Oper} {stg : List St} {t : TE} : ∀ {ps : List Nat}, chk1 P c ops stg t ps = some () → ∀ p ∈ ps, chkp P c ops stg t p = some ()
  | [], _, p, hp => by cases hp
  | q :: ps, h, p, hp => by
    have h : ob (chkp P c ops stg t q) (fun _ => chk1 P c ops stg t ps) = some () := h
    obtain ⟨_, h1, h2⟩ := ob_some h
    rcases List.mem_cons.1 hp with rfl | hp
    · exact h1
    · exact chk1_mem h2 p hp
theorem chk_ok {c d : CallF} (hcd : CLe c d) {ops : Array Oper} {b sq : List Nat} {stg : List St} : ∀ {l : List Nat} {k : Nat} {e : Env} {S : St} {T : List TE} {q : Env × St}, runT P d ops l k e S = some (T, q) →
    chkF P c ops stg T (needsR ops b sq stg.length l k) = some () → ∀ t ∈ T, recheck P d ops b sq stg t = true
  | [], k, e, S, T, q, h, hc, t, ht => by
    simp only [runT, Option.some.injEq, Prod.mk.injEq] at h
    obtain ⟨rfl, _⟩ := h
    cases ht
  | i :: l, k, e, S, T, q, h, hc, t, ht => by
    unfold runT at h
    split at h
    case h_2 => cases h
    rename_i o ho
    split at h
    case h_2 => cases h
    rename_i v S' hst
    cases hb : (isQ o.op && !(Nat.beq S'.next S.next)) with
    | true => rw [hb] at h; cases h
    | false =>
      rw [hb] at h
      simp only [cond_false] at h
      split at h
      case h_2 => cases h
      rename_i T' e' s' hT
      simp only [Option.some.injEq, Prod.mk.injEq] at h
      obtain ⟨rfl, _⟩ := h
      unfold needsR at hc
      simp only [ho] at hc
      have hc : ob (chk1 P c ops stg ⟨i, e, S, v, S', k⟩ (bif isQ o.op && !isN o.op then (List.range stg.length).filter (fun p => !(Nat.beq p k) && mayBe b sq i p) else []))
        (fun _ => chkF P c ops stg T' (needsR ops b sq stg.length l (bif isQ o.op then k else k + 1))) = some () := hc
      obtain ⟨_, h1, h2⟩ := ob_some hc
      rcases List.mem_cons.1 ht with rfl | ht
      · unfold recheck
        simp only [ho]
        cases hn : (!(isQ o.op) || isN o.op) with
        | true => rfl
        | false =>
          simp only [Bool.false_or]
          have hn' : (isQ o.op && !isN o.op) = true := by revert hn; cases isQ o.op <;> cases isN o.op <;> simp
          rw [hn'] at h1
          simp only [cond_true] at h1
          rw [List.all_eq_true]
          rintro ⟨Sp, p⟩ hm
          rw [List.mem_zipIdx_iff_getElem?] at hm
          have hm : stg[p]? = some Sp := hm
          cases hk : Nat.beq p k with
          | true => rfl
          | false =>
            cases hmb : mayBe b sq i p with
            | false => rfl
            | true =>
              simp only [Bool.false_or, Bool.not_true]
              have := chk1_mem h1 p (List.mem_filter.2 ⟨List.mem_range.2 (List.getElem?_eq_some_iff.1 hm).1, by rw [hk, hmb]; rfl⟩)
              obtain ⟨Sp', g1, g⟩ := ob_some this
              obtain ⟨o', g2, g⟩ := ob_some g
              obtain ⟨v', S2, g3, g⟩ := obp_some g
              obtain ⟨g4, g⟩ := ifB_some g
              obtain ⟨g5, g⟩ := ifB_some g
              rw [nthF_eq, hm] at g1
              injection g1 with g1
              subst g1
              rw [opAt_eq] at g2
              rw [ho] at g2
              injection g2 with g2
              subst g2
              simp only [stepOpF_some hcd g3, g4, g5, Bool.and_true]
      · exact chk_ok hcd hT h2 t ht
noncomputable def evDrawF (P : Program) (call : CallF) (ops : Array Oper) (pl : Plan) (e : Env) (S : St) : Option (Env × St) :=
  obp (runTF P call ops pl.ord 0 e S) fun T q => ob (chkF P call ops (stagesF ops S T) T pl.needs) fun _ => some q
/-- A plan fits a region. -/
def planFit (ops : Array Oper) (pl : Plan) : Bool :=
  planOk ops (masks ops) (ordOf ops) && decide (ordOf ops = pl.ord) && decide (needsR ops (masks ops) (seqOf ops (ordOf ops)) ((seqOf ops (ordOf ops)).length + 1) (ordOf ops) 0 = pl.needs)
theorem stages_length {call : CallF} {ops : Array Oper} {ord : List Nat} {env0 : Env} {S0 : St} {T : List TE} {env' : Env} {S' : St} {k0 : Nat} (h : TF P call ops ord env0 S0 T env' S' k0) : (stages ops S0 T).length = (seqOf ops ord).length + 1 := by
  unfold stages seqOf
  rw [← h.idx, List.filter_map]
  simp
  rfl
theorem evDrawF_some {c d : CallF} (hcd : CLe c d) {ops : Array Oper} {pl : Plan} (hp : planFit ops pl = true) {e : Env} {S : St} {r : Env × St} (h : evDrawF P c ops pl e S = some r) : evDraw P d ops e S = some r := by
  unfold planFit at hp
  simp only [Bool.and_eq_true, decide_eq_true_eq] at hp
  obtain ⟨⟨p1, p2⟩, p3⟩ := hp
  obtain ⟨T, q, h1, h⟩ := obp_some h
  obtain ⟨_, h2, h3⟩ := ob_some h
  injection h3 with h3
  subst h3
  have h1 := runTF_some hcd h1
  rw [← p2] at h1
  obtain ⟨e', s'⟩ := q
  have tf := TF.of h1
  rw [stagesF_eq, ← p3, ← stages_length tf] at h2
  unfold evDraw
  rw [p1]
  simp only [cond_true, h1]
  have := chk_ok hcd h1 h2
  rw [List.all_eq_true.2 this]
  rfl
end
end Go.Proofs.YtigkndbkaagboaaGreatDoor.Ev
end
section
namespace Go.Proofs.YtigkndbkaagboaaGreatDoor.Ev
open Go hiding Obj
set_option linter.unusedVariables false
set_option linter.unusedSimpArgs false
set_option linter.unusedSectionVars false
variable [Gl]
section
variable {P : Program}
theorem Fr.below {r : Ren} {S : St} {w w' : World} (h : Rel r S w) (hb : RowKit.Below w.heap.size w w') : Fr r S w r S w' :=
  Fr.mk' h r.le_refl h.n h.even hb.size (fun i o hi => .inl ⟨hi, fun ho => hb.block _ (h.lt hi ho)⟩) (fun b hbl _ => hb.block b hbl) hb.os hb.tape hb.output
/-- A row that a call made is taken for a grown one. -/
theorem Fr.row {r : Ren} {S : St} {w w' : World} (h : Rel r S w) (hb : RowKit.Below w.heap.size w w') {v' : Value} {n sz : Nat} {e : TypeId} {xs xs' : List Value} (hrow : w'.ownsRow w.heap.size e sz v' n xs') (hx : VRs r xs xs') (h1 : ∀ v ∈ xs', v.oneCell' = true) (hn : n ≠ 0) :
    ∃ r', Fr r S w r' (S.newG (.cells xs e sz)) w' ∧ VR r' (.slice (some ⟨S.next + 1, 0, none⟩) n 0) v' := by
  obtain ⟨hl, hr⟩ := hrow
  rcases hr with ⟨_, h0⟩ | ⟨g, cap, cur, rfl, hg, hhp, hncap, _, hsz, htake⟩
  · exact absurd h0 hn
  have hnn := h.n
  have hle := r.le_ext (i := S.next + 1) (by omega) g 0 cap
  have hlt := (Array.getElem?_eq_some_iff.1 hhp).1
  have hcell : ∀ j, w'.cell? ⟨g, j, none⟩ = cur[j]? := fun j => by unfold World.cell?; rw [hhp]; simp
  have hfz : ∀ j, w'.frozen? ⟨g, j, none⟩ = false := fun j => by unfold World.frozen?; rw [hhp]; simp
  have hmul : n * sz ≤ cap * sz := Nat.mul_le_mul_right _ hncap
  refine ⟨r.ext (S.next + 1) g 0 cap, ?_, VR.newO h g 0 cap n⟩
  refine Fr.mk' h hle (by simp [Ren.ext, St.newG, hnn]) (by simp only [St.newG]; have := h.even; omega) hb.size ?_ (fun b hbl _ => hb.block b hbl) hb.os hb.tape hb.output
  intro i o hi
  rcases St.get_newG hi with ⟨rfl, rfl⟩ | ⟨hne, hi⟩
  · refine .inr ⟨by simp [Ren.ext, hnn], ⟨by rw [Ren.ext_μ]; exact ⟨_, 0, 0, hhp, .inl rfl⟩, fun j v hj => ?_, fun _ => ⟨?_, fun j hj => ?_⟩, fun he => absurd he (by have := h.even; omega)⟩, fun _ => ⟨.inr (by rw [Ren.ext_μ]; exact hg), fun j oj hj hgj hoj => ?_⟩⟩
    · rw [Ren.ext_μ, Ren.ext_δ, Nat.add_zero, hcell, hfz]
      obtain ⟨v', e1, e2⟩ := hx.get hj
      have e3 : (cur.toList.take (n * sz))[j]? = some v' := by rw [htake]; exact e1
      have hjl : j < n * sz := by
        have := (List.getElem?_eq_some_iff.1 e1).1
        omega
      rw [List.getElem?_take_of_lt hjl] at e3
      exact ⟨v', by simpa using e3, e2.mono hle, h1 v' (List.mem_of_getElem? e1), rfl⟩
    · rw [Ren.ext_κ, hx.length, hl]; exact hmul
    · rw [Ren.ext_κ] at hj
      rw [Ren.ext_μ, Ren.ext_δ, Nat.add_zero, hcell, hfz, Array.getElem?_eq_getElem (by omega)]
      exact ⟨rfl, rfl⟩
    · rcases St.get_newG hgj with ⟨rfl, _⟩ | ⟨_, hgj⟩
      · exact absurd rfl hj
      · rw [Ren.ext_μ, (hle.2 j (h.objs j _ hgj).1).1]
        have := h.lt hgj hoj
        omega
  · exact .inl ⟨hi, fun ho => hb.block _ (h.lt hi ho)⟩
end
end Go.Proofs.YtigkndbkaagboaaGreatDoor.Ev
end
section
namespace Go.Proofs.YtigkndbkaagboaaGreatDoor.Ev
open Go hiding Obj
set_option linter.unusedVariables false
set_option linter.unusedSimpArgs false
set_option linter.unusedSectionVars false
variable [Gl]
/-- Code, one step of it. -/
inductive CV where
  | skip
  | reg (id : Nat) (ops : Array Oper) (draw : Bool)
  | seq (a b : Code)
  | cond (x : Operand) (a b : Code)
  | block (id : Nat) (a : Code)
  | loop (a : Code)
  | exit (id : Nat)
  | goto (l : Nat)
  | ret
  | bad
def viewC : Code → CV
  | .skip | .label _ => .skip
  | .region id ops draw => .reg id ops draw
  | .seq a b => .seq a b
  | .cond x a b => .cond x a b
  | .block id a => .block id a
  | .loop a => .loop a
  | .exit id => .exit id
  | .goto l => .goto l
  | .ret => .ret
  | _ => .bad
abbrev RC := Option (Ex × Env × St)
abbrev IH := Code → Env → St → RC
abbrev AF := (Nat → Option Plan) → Program → IH → CallF → Env → St → RC
/-- Is it the usual end? -/
noncomputable def exN (x : Ex) : Bool := @Ex.rec (fun _ => Bool) true (fun _ => false) (fun _ => false) false x
theorem exN_eq {x : Ex} (h : exN x = true) : x = .normal := by cases x <;> first | rfl | cases h
noncomputable def exI (x : Ex) (id : Nat) : Ex := @Ex.rec (fun _ => Nat → Ex) (fun _ => .normal) (fun i id => ifB (Nat.beq i id) .normal (.exit i)) (fun l _ => .goto l) (fun _ => .ret) x id
noncomputable def evStepF (pl : Nat → Option Plan) (P : Program) (ih : IH) (call : CallF) (c : Code) (e : Env) (S : St) : RC :=
  @CV.rec (fun _ => AF)
    (fun _ _ _ _ e S => some (.normal, e, S))
    (fun id ops draw pl P _ call e S => ifB draw (ob (pl id) fun p => obp (evDrawF P call ops p e S) fun e s => some (.normal, e, s)) (obp (evOpsF P call ops ops.toList e S) fun e s => some (.normal, e, s)))
    (fun a b _ _ ih _ e S => obp (ih a e S) fun x q => @Prod.rec Env St (fun _ => RC) (fun e s => ifB (exN x) (ih b e s) (some (x, e, s))) q)
    (fun x a b _ _ ih _ e S => ob (opdF e x) fun v => ob (boolOf v) fun t => ih (ifB t a b) e S)
    (fun id a _ _ ih _ e S => obp (ih a e S) fun x q => some (exI x id, q))
    (fun a _ _ ih _ e S => obp (ih a e S) fun x q => @Prod.rec Env St (fun _ => RC) (fun e s => ifB (exN x) (ih (.loop a) e s) (some (x, e, s))) q)
    (fun id _ _ _ _ e S => some (.exit id, e, S))
    (fun l _ _ _ _ e S => some (.goto l, e, S))
    (fun _ _ _ _ e S => some (.ret, e, S))
    (fun _ _ _ _ _ _ => none) (viewC c) pl P ih call e S
noncomputable def envOfF (args : List Value) (i : Nat) : Tr Value := @List.rec Value (fun _ => Nat → Tr Value) (fun _ => Tr.nil) (fun v _ ih i => Tr.ins (ih (Nat.add i 1)) i v) args i
theorem envOfF_eq : ∀ (args : List Value) (i : Nat), envOfF args i = envOf args i
  | [], _ => rfl
  | v :: args, i => by
    have : envOfF (v :: args) i = Tr.ins (envOfF args (i + 1)) i v := rfl
    rw [this, envOfF_eq args (i + 1)]
    rfl
abbrev Tab := List (Nat × List (Nat × Plan))
def look {α : Type} : List (Nat × α) → Nat → Option α
  | [], _ => none
  | (k, v) :: t, i => bif Nat.beq k i then some v else look t i
def plOf (tab : Tab) (f : FuncId) (id : Nat) : Option Plan := (look tab f).bind fun rows => look rows id
/-- A function: its code, its slots, its results. -/
noncomputable def fnF (P : Program) (f : FuncId) : Option (Code × Nat × List ResultVar) :=
  match funcF P f with
  | some fn => match fn.body with
    | some c => some (c, fn.ntmps, fn.results.toList)
    | none => none
  | none => none
noncomputable def oneV (vs : List Value) : Value := @List.rec Value (fun _ => Value) (.tuple ⟨[]⟩) (fun v t _ => @List.rec Value (fun _ => Value → Value) (fun v => v) (fun u t _ v => .tuple ⟨v :: u :: t⟩) t v) vs
noncomputable def endsF (x : Ex) : Bool := @Ex.rec (fun _ => Bool) true (fun _ => false) (fun _ => false) true x
noncomputable def callF (P : Program) (pr : Prims) (ih : FuncId → IH) (f : FuncId) (args : List Value) (S : St) : RS :=
  @Option.rec (List Value → St → RS) (fun _ => Program → (FuncId → IH) → FuncId → List Value → St → RS)
    (fun P ih f args S => ob (fnF P f) fun q => obp (ih f q.1 ⟨envOfF args 0, Nat.add (lenF args 0) (Nat.sub q.2.1 (lenF args 0))⟩ S) fun x r => @Prod.rec Env St (fun _ => RS) (fun e s => ifB (endsF x) (ob (resV P s e q.2.2) fun vs => some (oneV vs, s)) none) r)
    (fun g _ _ _ args S => g args S) (pr f) P ih f args S
noncomputable def evF (P : Program) (pr : Prims) (tab : Tab) (n : Nat) : FuncId → IH :=
  @Nat.rec (fun _ => FuncId → IH) (fun _ _ _ _ => none) (fun _ ih f c e S => evStepF (plOf tab f) P (ih f) (callF P pr ih) c e S) n
/-- Do the plans fit? -/
def okC (pl : Nat → Option Plan) : Code → Bool
  | .region id ops draw => bif draw then (match pl id with | some p => planFit ops p | none => true) else true
  | .seq a b => okC pl a && okC pl b
  | .cond _ a b => okC pl a && okC pl b
  | .block _ a => okC pl a
  | .loop a => okC pl a
  | _ => true
def rowOk (P : Program) (row : Nat × List (Nat × Plan)) : Bool :=
  match P.funcs[row.1]? with
  | some fn => match fn.body with
    | some c => okC (look row.2) c
    | none => true
  | none => true
section
variable {P : Program} {pr : Prims} {tab : Tab}
theorem look_mem {α : Type} : ∀ {l : List (Nat × α)} {i : Nat} {v : α}, look l i = some v → (i, v) ∈ l
  | [], _, _, h => by cases h
  | (k, v) :: t, i, u, h => by
    unfold look at h
    cases hb : Nat.beq k i with
    | true =>
      rw [hb] at h
      injection h with h
      subst h
      rw [beq0 hb]
      simp
    | false =>
      rw [hb] at h
      exact List.mem_cons_of_mem _ (look_mem h)
theorem okC_none : ∀ (c : Code), okC (fun _ => none) c = true
  | .region id ops draw => by cases draw <;> rfl
  | .seq a b => by simp only [okC, okC_none a, okC_none b, Bool.and_true]
  | .cond _ a b => by simp only [okC, okC_none a, okC_none b, Bool.and_true]
  | .block _ a => by simp only [okC, okC_none a]
  | .loop a => by simp only [okC, okC_none a]
  | .skip | .rangeFunc .. | .exit _ | .scope _ | .label _ | .goto _ | .ret | .refuse _ => rfl
theorem plOf_ok (hT : ∀ row ∈ tab, rowOk P row = true) {f : FuncId} {fn : Func} {c : Code} (hf : P.funcs[f]? = some fn) (hc : fn.body = some c) : okC (plOf tab f) c = true := by
  cases hl : look tab f with
  | none =>
    have : plOf tab f = fun _ => none := by funext id; simp [plOf, hl]
    rw [this]
    exact okC_none c
  | some rows =>
    have : plOf tab f = look rows := by funext id; simp [plOf, hl]
    rw [this]
    have := hT _ (look_mem hl)
    simp only [rowOk, hf, hc] at this
    exact this
theorem callF_le (hT : ∀ row ∈ tab, rowOk P row = true) {ihF : FuncId → IH} {ih : IH} (hle : ∀ f c e S r, okC (plOf tab f) c = true → ihF f c e S = some r → ih c e S = some r) : CLe (callF P pr ihF) (callE P pr ih) := by
  intro f args S r h
  unfold callF at h
  unfold callE
  cases hp : pr f with
  | some g => rw [hp] at h; exact h
  | none =>
    rw [hp] at h
    have h : ob (fnF P f) (fun q => obp (ihF f q.1 ⟨envOfF args 0, Nat.add (lenF args 0) (Nat.sub q.2.1 (lenF args 0))⟩ S) fun x r => @Prod.rec Env St (fun _ => RS) (fun e s => ifB (endsF x) (ob (resV P s e q.2.2) fun vs => some (oneV vs, s)) none) r) = some r := h
    obtain ⟨q, h1, h⟩ := ob_some h
    obtain ⟨x, p, h2, h3⟩ := obp_some h
    obtain ⟨e', S'⟩ := p
    obtain ⟨h4, h5⟩ := ifB_some (show ifB (endsF x) (ob (resV P S' e' q.2.2) fun vs => some (oneV vs, S')) none = some r from h3)
    obtain ⟨vs, h6, h7⟩ := ob_some h5
    unfold fnF at h1
    rw [funcF_eq] at h1
    split at h1
    case h_2 => cases h1
    rename_i fn hf
    split at h1
    case h_2 => cases h1
    rename_i c hc
    injection h1 with h1
    subst h1
    rw [envOfF_eq, lenF_eq, Nat.zero_add] at h2
    have h2 := hle _ _ _ _ _ (plOf_ok hT hf hc) h2
    have h2 : ih c ⟨envOf args 0, args.length + (fn.ntmps - args.length)⟩ S = some (x, e', S') := h2
    simp only [hf, hc, h2]
    injection h7 with h7
    subst h7
    have h6 : resV P S' e' fn.results.toList = some vs := h6
    cases x with
    | normal => simp only [h6]; rcases vs with _ | ⟨v, _ | ⟨u, t⟩⟩ <;> rfl
    | ret => simp only [h6]; rcases vs with _ | ⟨v, _ | ⟨u, t⟩⟩ <;> rfl
    | exit i => cases h4
    | goto l => cases h4
theorem evF_ev (hT : ∀ row ∈ tab, rowOk P row = true) : ∀ (n : Nat) (f : FuncId) (c : Code) (e : Env) (S : St) (r : Ex × Env × St), okC (plOf tab f) c = true → evF P pr tab n f c e S = some r → ev P pr n c e S = some r
  | 0, _, _, _, _, _, _, h => by cases h
  | n + 1, f, c, e, S, r, hok, h => by
    have hcall := callF_le (pr := pr) hT (ihF := evF P pr tab n) (ih := ev P pr n) (evF_ev hT n)
    have h : evStepF (plOf tab f) P (evF P pr tab n f) (callF P pr (evF P pr tab n)) c e S = some r := h
    show evStep P pr (ev P pr n) c e S = some r
    have IH := fun c e S r => evF_ev hT n f c e S r
    cases c with
    | skip => exact h
    | label l => exact h
    | region id ops draw =>
      cases draw with
      | true =>
        have h : ob (plOf tab f id) (fun p => obp (evDrawF P (callF P pr (evF P pr tab n)) ops p e S) fun e s => some (Ex.normal, e, s)) = some r := h
        obtain ⟨p, h1, h⟩ := ob_some h
        obtain ⟨e', s', h2, h3⟩ := obp_some h
        simp only [okC, h1, cond_true] at hok
        simp only [evStep, cond_true, evDrawF_some hcall hok h2]
        exact h3
      | false =>
        have h : obp (evOpsF P (callF P pr (evF P pr tab n)) ops ops.toList e S) (fun e s => some (Ex.normal, e, s)) = some r := h
        obtain ⟨e', s', h2, h3⟩ := obp_some h
        simp only [evStep, cond_false, evOpsF_some hcall h2]
        exact h3
    | seq a b =>
      simp only [okC, Bool.and_eq_true] at hok
      have h : obp (evF P pr tab n f a e S) (fun x q => @Prod.rec Env St (fun _ => RC) (fun e s => ifB (exN x) (evF P pr tab n f b e s) (some (x, e, s))) q) = some r := h
      obtain ⟨x, q, h1, h2⟩ := obp_some h
      obtain ⟨e', s'⟩ := q
      have h2 : ifB (exN x) (evF P pr tab n f b e' s') (some (x, e', s')) = some r := h2
      have h1 := IH _ _ _ _ hok.1 h1
      simp only [evStep, h1]
      cases x with
      | normal => exact IH _ _ _ _ hok.2 h2
      | _ => exact h2
    | cond x a b =>
      simp only [okC, Bool.and_eq_true] at hok
      have h : ob (opdF e x) (fun v => ob (boolOf v) fun t => evF P pr tab n f (ifB t a b) e S) = some r := h
      obtain ⟨v, h1, h⟩ := ob_some h
      obtain ⟨t, h2, h3⟩ := ob_some h
      obtain rfl := boolOf_some h2
      rw [opdF_eq] at h1
      simp only [evStep, h1]
      cases t with
      | true => exact IH _ _ _ _ hok.1 h3
      | false => exact IH _ _ _ _ hok.2 h3
    | block id a =>
      have h : obp (evF P pr tab n f a e S) (fun x q => some (exI x id, q)) = some r := h
      obtain ⟨x, q, h1, h2⟩ := obp_some h
      obtain ⟨e', s'⟩ := q
      have h1 := IH _ _ _ _ (show okC (plOf tab f) a = true from hok) h1
      simp only [evStep, h1]
      cases x with
      | exit i =>
        have h2 : some (ifB (Nat.beq i id) Ex.normal (Ex.exit i), e', s') = some r := h2
        rw [ifB_eq] at h2
        cases hb : Nat.beq i id with
        | true => rw [hb] at h2; simp only [hb, cond_true]; exact h2
        | false => rw [hb] at h2; simp only [hb, cond_false]; exact h2
      | _ => exact h2
    | loop a =>
      have h : obp (evF P pr tab n f a e S) (fun x q => @Prod.rec Env St (fun _ => RC) (fun e s => ifB (exN x) (evF P pr tab n f (.loop a) e s) (some (x, e, s))) q) = some r := h
      obtain ⟨x, q, h1, h2⟩ := obp_some h
      obtain ⟨e', s'⟩ := q
      have h2 : ifB (exN x) (evF P pr tab n f (.loop a) e' s') (some (x, e', s')) = some r := h2
      have h1 := IH _ _ _ _ (show okC (plOf tab f) a = true from hok) h1
      simp only [evStep, h1]
      cases x with
      | normal => exact IH _ _ _ _ hok h2
      | _ => exact h2
    | exit id => exact h
    | goto l => exact h
    | ret => exact h
    | _ => cases h
/-- A call without arguments, from whatever memory. -/
theorem closed_callF (hm : P.follows .mixedOrders = true) (hpr : PrimOk P pr) (hT : ∀ row ∈ tab, rowOk P row = true) (n : Nat) {f : FuncId} {v : Value} {S : St} (h : callF P pr (evF P pr tab n) f [] ⟨Hp.nil, 0⟩ = some (v, S)) (hv : plain v = true) (w : World) (hG : GlOk w) :
    Calls P f #[] w fun e w' => e = .returned v ∧ RowKit.Below w.heap.size w w' :=
  closed_call hm hpr n (callF_le hT (evF_ev hT n) _ _ _ _ h) hv w hG
/-- Later worlds hold it, too. -/
theorem GlOk.below {B : Nat} {w w' : World} (h : GlOk w) (hw : RowKit.Below B w w') (hB : ∀ p ∈ Gl.cells, p.1 < B) : GlOk w' := fun p hp => by
  obtain ⟨h1, h2⟩ := h p hp
  exact ⟨Nat.lt_of_lt_of_le h1 hw.size, by rw [hw.block p.1 (hB p hp)]; exact h2⟩
/-- A call in a memory that the evaluator knows. -/
theorem callF_sound (hm : P.follows .mixedOrders = true) (hpr : PrimOk P pr) (hT : ∀ row ∈ tab, rowOk P row = true) (n : Nat) {f : FuncId} {args : List Value} {v : Value} {S S' : St} (h : callF P pr (evF P pr tab n) f args S = some (v, S')) {r : Ren} {w : World} {args' : List Value}
    (hr : Rel r S w) (ha : VRs r args args') : Calls P f ⟨args'⟩ w fun e w' => ∃ r' v', e = .returned v' ∧ Fr r S w r' S' w' ∧ VR r' v v' :=
  call_sound hm hpr n f args S v S' (callF_le hT (evF_ev hT n) _ _ _ _ h) r w args' hr ha
/-- An empty memory. -/
noncomputable def S0 : St := ⟨Hp.nil, 0⟩
def r0 : Ren := ⟨0, id, id, id⟩
theorem own0 {b : Nat} : ¬ Owned r0 S0 b := by
  rintro ⟨i, o, hi, _⟩
  simp only [S0, St.get, Hp.get_nil] at hi
  cases hi
theorem rel0 (w : World) (hG : GlOk w) : Rel r0 S0 w := ⟨fun p hp => ⟨(hG p hp).1, own0, (hG p hp).2⟩, rfl, rfl, fun i o h => by
    simp only [S0, St.get, Hp.get_nil] at h
    exact absurd h (by simp), fun i j oi oj h => by
    simp only [S0, St.get, Hp.get_nil] at h
    cases h⟩
theorem fr0_below {w : World} {r : Ren} {S : St} {w' : World} (h : Fr r0 S0 w r S w') : RowKit.Below w.heap.size w w' :=
  ⟨h.os, h.tape, h.output, h.size, fun k hk => h.kept k hk own0⟩
theorem VRs.pl {r : Ren} : ∀ {xs : List Value}, xs.all plain = true → VRs r xs xs
  | [], _ => .nil
  | x :: xs, h => by simp at h; exact .cons (.pl h.1) (VRs.pl (by simpa using h.2))
/-- A call with arguments that lead nowhere, from whatever memory. -/
theorem closed_callA (hm : P.follows .mixedOrders = true) (hpr : PrimOk P pr) (hT : ∀ row ∈ tab, rowOk P row = true) (n : Nat) {f : FuncId} {args : List Value} {v : Value} {S : St} (h : callF P pr (evF P pr tab n) f args S0 = some (v, S)) (hp : args.all plain = true) (hv : plain v = true) (w : World) (hG : GlOk w) :
    Calls P f ⟨args⟩ w fun e w' => e = .returned v ∧ RowKit.Below w.heap.size w w' := by
  refine (callF_sound hm hpr hT n h (rel0 w hG) (VRs.pl hp)).mono ?_
  rintro e w' ⟨r', v', rfl, f1, f2⟩
  exact ⟨by rw [f2.plain_eq hv], fr0_below f1⟩
end
end Go.Proofs.YtigkndbkaagboaaGreatDoor.Ev
end
