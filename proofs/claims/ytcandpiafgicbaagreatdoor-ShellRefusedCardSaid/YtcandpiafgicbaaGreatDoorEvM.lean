/- The evaluator's operations: maps, and going through them. -/
import Derived.Test.YtcandpiafgicbaaGreatDoorEvG
namespace Go.Proofs.YtcandpiafgicbaaGreatDoor.Ev
open Go hiding Obj
set_option linter.unusedVariables false
set_option linter.unusedSimpArgs false
set_option linter.unusedSectionVars false
variable [Gl]
/-- A thing that is no row is put anew. -/
theorem Rel.setO {r : Ren} {S : St} {w : World} (h : Rel r S w) {i : Nat} {ob ob' : Obj} (hi : S.get i = some ob) (ho : ob.owns = true) (ho' : ob'.owns = true) {x' : Go.Obj}
    (hor : ∀ w' : World, w'.heap.size = w.heap.size → w'.heap[r.μ i]? = some x' → OR r (S.set i ob') w' i ob') : Fr r S w r (S.set i ob') { w with heap := w.heap.setIfInBounds (r.μ i) x' } := by
  have hlt := h.lt hi ho
  have hown : Owned r S (r.μ i) := ⟨i, ob, hi, ho, rfl⟩
  refine Fr.mk' h r.le_refl h.n h.even (by simp) ?_ ?_ rfl rfl rfl
  · intro j o hj
    rcases St.get_set hj with ⟨rfl, rfl⟩ | ⟨hne, hj⟩
    · refine .inr ⟨(h.objs j _ hi).1, hor _ (by simp) (by simp [hlt]), fun _ => ⟨.inl hown, fun q oq hq hgq hoq => ?_⟩⟩
      rcases St.get_set hgq with ⟨rfl, _⟩ | ⟨_, hgq⟩
      · exact absurd rfl hq
      · exact fun e => hq (h.inj _ _ _ _ hgq hi hoq ho e)
    · refine .inl ⟨hj, fun hoj => ?_⟩
      have : r.μ i ≠ r.μ j := fun e => hne (h.inj _ _ _ _ hi hj ho hoj e).symm
      simp [Array.getElem?_setIfInBounds_ne this]
  · intro b hb hno
    have : r.μ i ≠ b := fun e => hno (e ▸ hown)
    simp [Array.getElem?_setIfInBounds_ne this]
/-- What was found. -/
inductive FR (r : Ren) : Option (Nat × Value) → Option (Nat × Value) → Prop
  | none : FR r none none
  | some (j : Nat) {v v' : Value} (h : VR r v v') : FR r (some (j, v)) (some (j, v'))
noncomputable def ent (x : Value × Value × Nat) : MapEntry := { key := x.1, val := x.2.1, born := x.2.2 }
section
variable {P : Program}
theorem findNow_rel {r : Ren} {kind : TypeDesc} {k : Value} : ∀ {es : List (Value × Value × Nat)} {es' : List MapEntry}, EsR r es es' → ∀ (i : Nat) (res : Option (Nat × Value)), Instr.findNow kind k (es.map ent) i = some res →
    ∃ res', Instr.findNow kind k es' i = some res' ∧ FR r res res'
  | _, _, .nil, i, res, h => by
    simp only [List.map_nil, Instr.findNow, Option.some.injEq] at h
    subst h
    exact ⟨none, rfl, .none⟩
  | _, _, .cons (k := kk) (v := v) (v' := v') (b := b) hk hv hs, i, res, h => by
    simp only [List.map_cons, Instr.findNow, ent] at h ⊢
    cases hq : Instr.sameNow kind k kk with
    | none => rw [hq] at h; cases h
    | some t =>
      rw [hq] at h
      cases t with
      | true =>
        simp only [Option.some.injEq] at h
        subst h
        exact ⟨_, rfl, .some _ hv⟩
      | false => exact findNow_rel hs (i + 1) res h
theorem findNow_none {r : Ren} {kind : TypeDesc} {k : Value} : ∀ {es : List (Value × Value × Nat)} {es' : List MapEntry}, EsR r es es' → ∀ (i : Nat), Instr.findNow kind k (es.map ent) i = none → Instr.findNow kind k es' i = none
  | _, _, .nil, i, h => by simp [Instr.findNow] at h
  | _, _, .cons (k := kk) (v := v) (v' := v') (b := b) hk hv hs, i, h => by
    simp only [List.map_cons, Instr.findNow, ent] at h ⊢
    cases hq : Instr.sameNow kind k kk with
    | none => rfl
    | some t =>
      rw [hq] at h
      cases t with
      | true => cases h
      | false => exact findNow_none hs (i + 1) h
theorem pureRun_bind {α β : Type} : ∀ {s : Sem α} {f : α → Sem β} {b : β}, pureRun P (s.bind f) = some b → ∃ a, pureRun P s = some a ∧ pureRun P (f a) = some b
  | .pure a, f, b, h => ⟨a, rfl, h⟩
  | .program k, f, b, h => by simp only [Sem.bind, pureRun] at h ⊢; exact pureRun_bind (s := k P) h
  | .mark _ k, f, b, h => by simp only [Sem.bind, pureRun] at h ⊢; exact pureRun_bind (s := k) h
  | .load .., _, _, h => by simp [Sem.bind, pureRun] at h
  | .store .., _, _, h => by simp [Sem.bind, pureRun] at h
  | .new .., _, _, h => by simp [Sem.bind, pureRun] at h
  | .shape .., _, _, h => by simp [Sem.bind, pureRun] at h
  | .freeze .., _, _, h => by simp [Sem.bind, pureRun] at h
  | .frozen .., _, _, h => by simp [Sem.bind, pureRun] at h
  | .getObj .., _, _, h => by simp [Sem.bind, pureRun] at h
  | .setObj .., _, _, h => by simp [Sem.bind, pureRun] at h
  | .choose .., _, _, h => by simp [Sem.bind, pureRun] at h
  | .sys .., _, _, h => by simp [Sem.bind, pureRun] at h
  | .halt _, _, _, h => by simp [Sem.bind, pureRun] at h
theorem findAsking_rel {r : Ren} {kt : TypeId} {k : Value} : ∀ {es : List (Value × Value × Nat)} {es' : List MapEntry}, EsR r es es' → ∀ (i : Nat) (res : Option (Nat × Value)), pureRun P (Instr.findAsking kt k (es.map ent) i) = some res →
    ∃ res', (∀ w, (Instr.findAsking kt k es' i).run P w = .ok res' w) ∧ FR r res res'
  | _, _, .nil, i, res, h => by
    simp only [List.map_nil, Instr.findAsking] at h
    have h : some none = some res := h
    simp only [Option.some.injEq] at h
    subst h
    exact ⟨none, fun w => by simp [Instr.findAsking], .none⟩
  | _, _, .cons (k := kk) (v := v) (v' := v') (b := b) hk hv hs, i, res, h => by
    simp only [List.map_cons, Instr.findAsking, ent] at h ⊢
    obtain ⟨t, h1, h2⟩ := pureRun_bind h
    have hr := pureRun_run h1
    cases t with
    | true =>
      have h2 : some (some (i, v)) = some res := h2
      simp only [Option.some.injEq] at h2
      subst h2
      exact ⟨some (i, v'), fun w => by simp [hr w], .some _ hv⟩
    | false =>
      have h2 : pureRun P (Instr.findAsking kt k (List.map ent _) (i + 1)) = some res := h2
      obtain ⟨res', g1, g2⟩ := findAsking_rel hs (i + 1) res h2
      exact ⟨res', fun w => by simp [hr w, g1 w], g2⟩
/-- A key's place. -/
theorem findKey_rel {r : Ren} {kt : TypeId} {k : Value} {es : List (Value × Value × Nat)} {es' : List MapEntry} (h : EsR r es es') {res : Option (Nat × Value)} (hf : pureRun P (Instr.findKey kt k (es.map ent)) = some res) :
    ∃ res', (∀ w, (Instr.findKey kt k es').run P w = .ok res' w) ∧ FR r res res' := by
  unfold Instr.findKey at hf ⊢
  obtain ⟨d, h1, h2⟩ := pureRun_bind hf
  have hr := pureRun_run h1
  cases hn : Instr.findNow d k (es.map ent) 0 with
  | some q =>
    rw [hn] at h2
    have h2 : some q = some res := h2
    simp only [Option.some.injEq] at h2
    subst h2
    obtain ⟨res', g1, g2⟩ := findNow_rel h 0 _ hn
    exact ⟨res', fun w => by simp [hr w, g1], g2⟩
  | none =>
    rw [hn] at h2
    obtain ⟨res', g1, g2⟩ := findAsking_rel (P := P) h 0 res h2
    exact ⟨res', fun w => by simp [hr w, findNow_none h 0 hn, g1 w], g2⟩
theorem EsR.length {r : Ren} : ∀ {es : List (Value × Value × Nat)} {es' : List MapEntry}, EsR r es es' → es.length = es'.length
  | _, _, .nil => rfl
  | _, _, .cons _ _ h => by simp [EsR.length h]
theorem run_getMap {w : World} {m : Nat} {o : Go.Obj} (h : w.heap[m]? = some o) (hnc : ∀ c e f, o ≠ .cells c e f) : (getObj m).run P w = .ok o w := by
  cases o with
  | cells c e f => exact absurd rfl (hnc c e f)
  | _ => simp [getObj, Sem.run, h]
theorem run_setMap {w : World} {m : Nat} {o x : Go.Obj} (h : w.heap[m]? = some o) (hnc : ∀ c e f, o ≠ .cells c e f) : (setObj m x).run P w = .ok () { w with heap := w.heap.setIfInBounds m x } := by
  cases o with
  | cells c e f => exact absurd rfl (hnc c e f)
  | _ => simp [setObj, Sem.run, h]
/-- m[k] -/
noncomputable def lkp (P : Program) (S : St) (t : TypeId) (x k : Value) (ok : Bool) : Option Value :=
  match P.underlying t with
  | some (.map key elem) =>
    bif plain k then
      match (match x with
        | .map none => some []
        | .map (some m) => match S.get m with | some (.map es _) => some es | _ => none
        | _ => none) with
      | some es =>
        match pureRun P (Instr.checkKey es.isEmpty 10000 key k), pureRun P (Instr.findKey key k (es.map ent)) with
        | some (), some (some (_, v)) => some (bif ok then .tuple #[v, .bool true] else v)
        | some (), some none => match zeroOf P elem with
          | some z => bif plain z then some (bif ok then .tuple #[z, .bool false] else z) else none
          | none => none
        | _, _ => none
      | none => none
    else none
  | _ => none
theorem lkp_sim {r : Ren} {S : St} {w : World} (hr : Rel r S w) {t : TypeId} {x x' k v : Value} (hx : VR r x x') {ok : Bool} (hb : lkp P S t x k ok = some v) : ∃ v', (Instr.lookup t x' k ok).run P w = .ok v' w ∧ VR r v v' := by
  unfold lkp at hb
  split at hb
  case h_2 => cases hb
  rename_i key elem hu
  cases hp : plain k with
  | false => rw [hp] at hb; simp at hb
  | true =>
    rw [hp] at hb
    simp only [cond_true] at hb
    split at hb
    case h_2 => cases hb
    rename_i es hes
    have hmap : ∃ es', EsR r es es' ∧ ((x' = .map none ∧ es' = []) ∨ ∃ m' cl, x' = .map (some m') ∧ w.heap[m']? = some (.map ⟨es'⟩ cl)) := by
      split at hes
      · simp only [Option.some.injEq] at hes
        subst hes
        cases hx with
        | sc _ _ => exact ⟨[], .nil, .inl ⟨rfl, rfl⟩⟩
      · rename_i m
        split at hes
        · rename_i es2 c hg
          simp only [Option.some.injEq] at hes
          subst hes
          obtain ⟨_, es', h1, h2⟩ := hr.objs m _ hg
          cases hx with
          | sc _ h => simp [scalar] at h
          | map _ hm => exact ⟨es', h2, .inr ⟨_, _, rfl, h1⟩⟩
        · cases hes
      · cases hes
    obtain ⟨es', he, hmap⟩ := hmap
    have hlen := he.length
    have hemp : es.isEmpty = es'.isEmpty := by cases he <;> rfl
    have fin : ∀ v' res', (Instr.checkKey es'.isEmpty 10000 key k).run P w = .ok () w → (Instr.findKey key k es').run P w = .ok res' w → (match res' with | some (_, v) => pure (v, true) | none => do pure (← zeroValue elem, false) : Sem (Value × Bool)).run P w = .ok v' w →
        (Instr.lookup t x' k ok).run P w = .ok (if ok then .tuple #[v'.1, .bool v'.2] else v'.1) w := fun v' res' h1 h2 h3 => by
      rcases hmap with ⟨rfl, rfl⟩ | ⟨m', cl, rfl, hm⟩
      · cases res' <;> simp [Instr.lookup, run_und hu] at h1 h2 h3 ⊢ <;> simp [h1, h2, ← h3]
        cases hz : (zeroValue elem).run P w <;> simp [hz] at h3 ⊢
        obtain ⟨h31, h32⟩ := h3
        subst h31 h32
        cases ok <;> simp
      · cases res' <;> simp [Instr.lookup, run_und hu, run_getMap (P := P) hm (fun _ _ _ h => by cases h)] at h1 h2 h3 ⊢ <;> simp [h1, h2, ← h3]
        cases hz : (zeroValue elem).run P w <;> simp [hz] at h3 ⊢
        obtain ⟨h31, h32⟩ := h3
        subst h31 h32
        cases ok <;> simp
    split at hb
    · rename_i v2 hck hfk
      simp only [Option.some.injEq] at hb
      obtain ⟨res', f1, f2⟩ := findKey_rel (P := P) he hfk
      cases f2 with
      | some j hv' =>
        rename_i v'
        have hc := pureRun_run hck w
        rw [hemp] at hc
        refine ⟨_, fin (v', true) _ hc (f1 w) (by simp), ?_⟩
        subst hb
        cases ok
        · simpa using hv'
        · exact .tuple (.cons hv' (.cons (.sc _ rfl) .nil))
    · rename_i hck hfk
      split at hb
      case h_2 => cases hb
      rename_i z hz
      cases hpz : plain z with
      | false => rw [hpz] at hb; simp at hb
      | true =>
        rw [hpz] at hb
        simp only [cond_true, Option.some.injEq] at hb
        obtain ⟨res', f1, f2⟩ := findKey_rel (P := P) he hfk
        cases f2 with
        | none =>
          have hc := pureRun_run hck w
          rw [hemp] at hc
          refine ⟨_, fin (z, false) _ hc (f1 w) (by simp [run_zeroOf hz]), ?_⟩
          subst hb
          cases ok
          · exact VR.pl hpz
          · exact .tuple (.cons (VR.pl hpz) (.cons (.sc _ rfl) .nil))
    · cases hb
/-- make(map) -/
noncomputable def mkM (P : Program) (S : St) (t : TypeId) (h : Option Value) : Option (Value × St) :=
  match h with
  | none => some (.map (some S.next), S.new (.map [] 0))
  | some (.int _ _) => match P.underlying t with | some (.map _ _) => some (.map (some S.next), S.new (.map [] 0)) | _ => none
  | _ => none
theorem newM {r : Ren} {S : St} {w : World} (hr : Rel r S w) : Fr r S w (r.ext S.next w.heap.size 0 0) (S.new (.map [] 0)) (w.alloc (.map #[] 0)) ∧ VR (r.ext S.next w.heap.size 0 0) (.map (some S.next)) (.map (some w.heap.size)) := by
  refine ⟨hr.push false (k := 0) rfl (i := S.next) rfl rfl fun r' S' hle hm hd _ => ⟨[], by rw [hm, heap_new'], .nil⟩, ?_⟩
  have := VR.map (r := r.ext S.next w.heap.size 0 0) S.next (by rw [Ren.ext_n, hr.n]; omega)
  simpa using this
theorem mkM_sim {r : Ren} {S S' : St} {w : World} (hr : Rel r S w) {t : TypeId} {h : Option Value} {v : Value} (hb : mkM P S t h = some (v, S')) : ∃ r' w' v', (Instr.makeMap t h).run P w = .ok v' w' ∧ Fr r S w r' S' w' ∧ VR r' v v' := by
  unfold mkM at hb
  split at hb
  · simp only [Option.some.injEq, Prod.mk.injEq] at hb
    obtain ⟨rfl, rfl⟩ := hb
    exact ⟨_, _, _, by simp [Instr.makeMap, newObj, Sem.run], (newM hr).1, (newM hr).2⟩
  · split at hb
    case h_2 => cases hb
    rename_i hu
    simp only [Option.some.injEq, Prod.mk.injEq] at hb
    obtain ⟨rfl, rfl⟩ := hb
    exact ⟨_, _, _, by simp [Instr.makeMap, run_und hu, asInt, asIntOf, newObj, Sem.run], (newM hr).1, (newM hr).2⟩
  · cases hb
end
end Go.Proofs.YtcandpiafgicbaaGreatDoor.Ev
