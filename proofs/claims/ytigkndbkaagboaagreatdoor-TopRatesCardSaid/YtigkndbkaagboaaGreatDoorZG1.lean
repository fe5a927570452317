/- The evaluator's operations: maps, and going through them. -/
import Derived.Test.YtigkndbkaagboaaGreatDoorZG0
import Derived.Tactics
section
namespace Go.Proofs.YtigkndbkaagboaaGreatDoor.Ev
open Go hiding Obj
set_option linter.unusedVariables false
set_option linter.unusedSimpArgs false
set_option linter.unusedSectionVars false
variable [Gl]
/-- A thing that is no row is put anew. -/
theorem Rel.setO {r : Ren} {S : St} {w : World} (h : Rel r S w) {i : Nat} {ob ob' : Obj} (hi : S.get i = some ob) (ho : ob.owns = true) (ho' : ob'.owns = true) {x' : Go.Obj}
    (hor : ∀ w' : World, w'.heap.size = w.heap.size → w'.heap[r.μ i]? = some x' → OR r (S.set i ob') w' i ob') : Fr r S w r (S.set i ob') { w with heap := w.heap.setIfInBounds (r.μ i) x' } := by
  have hlt := h.lt hi ho
  have hown : Owned r S (r.μ i) := ⟨i, ob, hi, ho, rfl⟩
  refine Fr.mk' h r.le_refl h.n h.even (by simp) ?_ ?_ rfl rfl rfl
  · intro j o hj
    rcases St.get_set hj with ⟨rfl, rfl⟩ | ⟨hne, hj⟩
    · refine .inr ⟨(h.objs j _ hi).1, hor _ (by simp) (by simp [hlt]), fun _ => ⟨.inl hown, fun q oq hq hgq hoq => ?_⟩⟩
      rcases St.get_set hgq with ⟨rfl, _⟩ | ⟨_, hgq⟩
      · exact absurd rfl hq
      · exact fun e => hq (h.inj _ _ _ _ hgq hi hoq ho e)
    · refine .inl ⟨hj, fun hoj => ?_⟩
      have : r.μ i ≠ r.μ j := fun e => hne (h.inj _ _ _ _ hi hj ho hoj e).symm
      simp [Array.getElem?_setIfInBounds_ne this]
  · intro b hb hno
    have : r.μ i ≠ b := fun e => hno (e ▸ hown)
    simp [Array.getElem?_setIfInBounds_ne this]
/-- What was found. -/
inductive FR (r : Ren) : Option (Nat × Value) → Option (Nat × Value) → Prop
  | none : FR r none none
  | some (j : Nat) {v v' : Value} (h : VR r v v') : FR r (some (j, v)) (some (j, v'))
noncomputable def ent (x : Value × Value × Nat) : MapEntry := { key := x.1, val := x.2.1, born := x.2.2 }
section
variable {P : Program}
theorem findNow_rel {r : Ren} {kind : TypeDesc} {k : Value} : ∀ {es : List (Value × Value × Nat)} {es' : List MapEntry}, EsR r es es' → ∀ (i : Nat) (res : Option (Nat × Value)), Instr.findNow kind k (es.map ent) i = some res →
    ∃ res', Instr.findNow kind k es' i = some res' ∧ FR r res res'
  | _, _, .nil, i, res, h => by
    simp only [List.map_nil, Instr.findNow, Option.some.injEq] at h
    subst h
    exact ⟨none, rfl, .none⟩
  | _, _, .cons (k := kk) (v := v) (v' := v') (b := b) hk hv hs, i, res, h => by
    simp only [List.map_cons, Instr.findNow, ent] at h ⊢
    cases hq : Instr.sameNow kind k kk with
    | none => rw [hq] at h; cases h
    | some t =>
      rw [hq] at h
      cases t with
      | true =>
        simp only [Option.some.injEq] at h
        subst h
        exact ⟨_, rfl, .some _ hv⟩
      | false => exact findNow_rel hs (i + 1) res h
theorem findNow_none {r : Ren} {kind : TypeDesc} {k : Value} : ∀ {es : List (Value × Value × Nat)} {es' : List MapEntry}, EsR r es es' → ∀ (i : Nat), Instr.findNow kind k (es.map ent) i = none → Instr.findNow kind k es' i = none
  | _, _, .nil, i, h => by simp [Instr.findNow] at h
  | _, _, .cons (k := kk) (v := v) (v' := v') (b := b) hk hv hs, i, h => by
    simp only [List.map_cons, Instr.findNow, ent] at h ⊢
    cases hq : Instr.sameNow kind k kk with
    | none => rfl
    | some t =>
      rw [hq] at h
      cases t with
      | true => cases h
      | false => exact findNow_none hs (i + 1) h
theorem pureRun_bind {α β : Type} : ∀ {s : Sem α} {f : α → Sem β} {b : β}, pureRun P (s.bind f) = some b → ∃ a, pureRun P s = some a ∧ pureRun P (f a) = some b
  | .pure a, f, b, h => ⟨a, rfl, h⟩
  | .program k, f, b, h => by simp only [Sem.bind, pureRun] at h ⊢; exact pureRun_bind (s := k P) h
  | .mark _ k, f, b, h => by simp only [Sem.bind, pureRun] at h ⊢; exact pureRun_bind (s := k) h
  | .load .., _, _, h => by simp [Sem.bind, pureRun] at h
  | .store .., _, _, h => by simp [Sem.bind, pureRun] at h
  | .new .., _, _, h => by simp [Sem.bind, pureRun] at h
  | .shape .., _, _, h => by simp [Sem.bind, pureRun] at h
  | .freeze .., _, _, h => by simp [Sem.bind, pureRun] at h
  | .frozen .., _, _, h => by simp [Sem.bind, pureRun] at h
  | .getObj .., _, _, h => by simp [Sem.bind, pureRun] at h
  | .setObj .., _, _, h => by simp [Sem.bind, pureRun] at h
  | .choose .., _, _, h => by simp [Sem.bind, pureRun] at h
  | .sys .., _, _, h => by simp [Sem.bind, pureRun] at h
  | .halt _, _, _, h => by simp [Sem.bind, pureRun] at h
theorem findAsking_rel {r : Ren} {kt : TypeId} {k : Value} : ∀ {es : List (Value × Value × Nat)} {es' : List MapEntry}, EsR r es es' → ∀ (i : Nat) (res : Option (Nat × Value)), pureRun P (Instr.findAsking kt k (es.map ent) i) = some res →
    ∃ res', (∀ w, (Instr.findAsking kt k es' i).run P w = .ok res' w) ∧ FR r res res'
  | _, _, .nil, i, res, h => by
    simp only [List.map_nil, Instr.findAsking] at h
    have h : some none = some res := h
    simp only [Option.some.injEq] at h
    subst h
    exact ⟨none, fun w => by simp [Instr.findAsking], .none⟩
  | _, _, .cons (k := kk) (v := v) (v' := v') (b := b) hk hv hs, i, res, h => by
    simp only [List.map_cons, Instr.findAsking, ent] at h ⊢
    obtain ⟨t, h1, h2⟩ := pureRun_bind h
    have hr := pureRun_run h1
    cases t with
    | true =>
      have h2 : some (some (i, v)) = some res := h2
      simp only [Option.some.injEq] at h2
      subst h2
      exact ⟨some (i, v'), fun w => by simp [hr w], .some _ hv⟩
    | false =>
      have h2 : pureRun P (Instr.findAsking kt k (List.map ent _) (i + 1)) = some res := h2
      obtain ⟨res', g1, g2⟩ := findAsking_rel hs (i + 1) res h2
      exact ⟨res', fun w => by simp [hr w, g1 w], g2⟩
/-- A key's place. -/
theorem findKey_rel {r : Ren} {kt : TypeId} {k : Value} {es : List (Value × Value × Nat)} {es' : List MapEntry} (h : EsR r es es') {res : Option (Nat × Value)} (hf : pureRun P (Instr.findKey kt k (es.map ent)) = some res) :
    ∃ res', (∀ w, (Instr.findKey kt k es').run P w = .ok res' w) ∧ FR r res res' := by
  unfold Instr.findKey at hf ⊢
  obtain ⟨d, h1, h2⟩ := pureRun_bind hf
  have hr := pureRun_run h1
  cases hn : Instr.findNow d k (es.map ent) 0 with
  | some q =>
    rw [hn] at h2
    have h2 : some q = some res := h2
    simp only [Option.some.injEq] at h2
    subst h2
    obtain ⟨res', g1, g2⟩ := findNow_rel h 0 _ hn
    exact ⟨res', fun w => by simp [hr w, g1], g2⟩
  | none =>
    rw [hn] at h2
    obtain ⟨res', g1, g2⟩ := findAsking_rel (P := P) h 0 res h2
    exact ⟨res', fun w => by simp [hr w, findNow_none h 0 hn, g1 w], g2⟩
theorem EsR.length {r : Ren} : ∀ {es : List (Value × Value × Nat)} {es' : List MapEntry}, EsR r es es' → es.length = es'.length
  | _, _, .nil => rfl
  | _, _, .cons _ _ h => by simp [EsR.length h]
theorem run_getMap {w : World} {m : Nat} {o : Go.Obj} (h : w.heap[m]? = some o) (hnc : ∀ c e f, o ≠ .cells c e f) : (getObj m).run P w = .ok o w := by
  cases o with
  | cells c e f => exact absurd rfl (hnc c e f)
  | _ => simp [getObj, Sem.run, h]
theorem run_setMap {w : World} {m : Nat} {o x : Go.Obj} (h : w.heap[m]? = some o) (hnc : ∀ c e f, o ≠ .cells c e f) : (setObj m x).run P w = .ok () { w with heap := w.heap.setIfInBounds m x } := by
  cases o with
  | cells c e f => exact absurd rfl (hnc c e f)
  | _ => simp [setObj, Sem.run, h]
/-- m[k] -/
noncomputable def lkp (P : Program) (S : St) (t : TypeId) (x k : Value) (ok : Bool) : Option Value :=
  match P.underlying t with
  | some (.map key elem) =>
    bif plain k then
      match (match x with
        | .map none => some []
        | .map (some m) => match S.get m with | some (.map es _) => some es | _ => none
        | _ => none) with
      | some es =>
        match pureRun P (Instr.checkKey es.isEmpty 10000 key k), pureRun P (Instr.findKey key k (es.map ent)) with
        | some (), some (some (_, v)) => some (bif ok then .tuple #[v, .bool true] else v)
        | some (), some none => match zeroOf P elem with
          | some z => bif plain z then some (bif ok then .tuple #[z, .bool false] else z) else none
          | none => none
        | _, _ => none
      | none => none
    else none
  | _ => none
theorem lkp_sim {r : Ren} {S : St} {w : World} (hr : Rel r S w) {t : TypeId} {x x' k v : Value} (hx : VR r x x') {ok : Bool} (hb : lkp P S t x k ok = some v) : ∃ v', (Instr.lookup t x' k ok).run P w = .ok v' w ∧ VR r v v' := by
  unfold lkp at hb
  split at hb
  case h_2 => cases hb
  rename_i key elem hu
  cases hp : plain k with
  | false => rw [hp] at hb; simp at hb
  | true =>
    rw [hp] at hb
    simp only [cond_true] at hb
    split at hb
    case h_2 => cases hb
    rename_i es hes
    have hmap : ∃ es', EsR r es es' ∧ ((x' = .map none ∧ es' = []) ∨ ∃ m' cl, x' = .map (some m') ∧ w.heap[m']? = some (.map ⟨es'⟩ cl)) := by
      split at hes
      · simp only [Option.some.injEq] at hes
        subst hes
        cases hx with
        | sc _ _ => exact ⟨[], .nil, .inl ⟨rfl, rfl⟩⟩
      · rename_i m
        split at hes
        · rename_i es2 c hg
          simp only [Option.some.injEq] at hes
          subst hes
          obtain ⟨_, es', h1, h2⟩ := hr.objs m _ hg
          cases hx with
          | sc _ h => simp [scalar] at h
          | map _ hm => exact ⟨es', h2, .inr ⟨_, _, rfl, h1⟩⟩
        · cases hes
      · cases hes
    obtain ⟨es', he, hmap⟩ := hmap
    have hlen := he.length
    have hemp : es.isEmpty = es'.isEmpty := by cases he <;> rfl
    have fin : ∀ v' res', (Instr.checkKey es'.isEmpty 10000 key k).run P w = .ok () w → (Instr.findKey key k es').run P w = .ok res' w → (match res' with | some (_, v) => pure (v, true) | none => do pure (← zeroValue elem, false) : Sem (Value × Bool)).run P w = .ok v' w →
        (Instr.lookup t x' k ok).run P w = .ok (if ok then .tuple #[v'.1, .bool v'.2] else v'.1) w := fun v' res' h1 h2 h3 => by
      rcases hmap with ⟨rfl, rfl⟩ | ⟨m', cl, rfl, hm⟩
      · cases res' <;> simp [Instr.lookup, run_und hu] at h1 h2 h3 ⊢ <;> simp [h1, h2, ← h3]
        cases hz : (zeroValue elem).run P w <;> simp [hz] at h3 ⊢
        obtain ⟨h31, h32⟩ := h3
        subst h31 h32
        cases ok <;> simp
      · cases res' <;> simp [Instr.lookup, run_und hu, run_getMap (P := P) hm (fun _ _ _ h => by cases h)] at h1 h2 h3 ⊢ <;> simp [h1, h2, ← h3]
        cases hz : (zeroValue elem).run P w <;> simp [hz] at h3 ⊢
        obtain ⟨h31, h32⟩ := h3
        subst h31 h32
        cases ok <;> simp
    split at hb
    · rename_i v2 hck hfk
      simp only [Option.some.injEq] at hb
      obtain ⟨res', f1, f2⟩ := findKey_rel (P := P) he hfk
      cases f2 with
      | some j hv' =>
        rename_i v'
        have hc := pureRun_run hck w
        rw [hemp] at hc
        refine ⟨_, fin (v', true) _ hc (f1 w) (by simp), ?_⟩
        subst hb
        cases ok
        · simpa using hv'
        · exact .tuple (.cons hv' (.cons (.sc _ rfl) .nil))
    · rename_i hck hfk
      split at hb
      case h_2 => cases hb
      rename_i z hz
      cases hpz : plain z with
      | false => rw [hpz] at hb; simp at hb
      | true =>
        rw [hpz] at hb
        simp only [cond_true, Option.some.injEq] at hb
        obtain ⟨res', f1, f2⟩ := findKey_rel (P := P) he hfk
        cases f2 with
        | none =>
          have hc := pureRun_run hck w
          rw [hemp] at hc
          refine ⟨_, fin (z, false) _ hc (f1 w) (by simp [run_zeroOf hz]), ?_⟩
          subst hb
          cases ok
          · exact VR.pl hpz
          · exact .tuple (.cons (VR.pl hpz) (.cons (.sc _ rfl) .nil))
    · cases hb
/-- make(map) -/
noncomputable def mkM (P : Program) (S : St) (t : TypeId) (h : Option Value) : Option (Value × St) :=
  match h with
  | none => some (.map (some S.next), S.new (.map [] 0))
  | some (.int _ _) => match P.underlying t with | some (.map _ _) => some (.map (some S.next), S.new (.map [] 0)) | _ => none
  | _ => none
theorem newM {r : Ren} {S : St} {w : World} (hr : Rel r S w) : Fr r S w (r.ext S.next w.heap.size 0 0) (S.new (.map [] 0)) (w.alloc (.map #[] 0)) ∧ VR (r.ext S.next w.heap.size 0 0) (.map (some S.next)) (.map (some w.heap.size)) := by
  refine ⟨hr.push false (k := 0) rfl (i := S.next) rfl rfl fun r' S' hle hm hd _ => ⟨[], by rw [hm, heap_new'], .nil⟩, ?_⟩
  have := VR.map (r := r.ext S.next w.heap.size 0 0) S.next (by rw [Ren.ext_n, hr.n]; omega)
  simpa using this
theorem mkM_sim {r : Ren} {S S' : St} {w : World} (hr : Rel r S w) {t : TypeId} {h : Option Value} {v : Value} (hb : mkM P S t h = some (v, S')) : ∃ r' w' v', (Instr.makeMap t h).run P w = .ok v' w' ∧ Fr r S w r' S' w' ∧ VR r' v v' := by
  unfold mkM at hb
  split at hb
  · simp only [Option.some.injEq, Prod.mk.injEq] at hb
    obtain ⟨rfl, rfl⟩ := hb
    exact ⟨_, _, _, by simp [Instr.makeMap, newObj, Sem.run], (newM hr).1, (newM hr).2⟩
  · split at hb
    case h_2 => cases hb
    rename_i hu
    simp only [Option.some.injEq, Prod.mk.injEq] at hb
    obtain ⟨rfl, rfl⟩ := hb
    exact ⟨_, _, _, by simp [Instr.makeMap, run_und hu, asInt, asIntOf, newObj, Sem.run], (newM hr).1, (newM hr).2⟩
  · cases hb
end
end Go.Proofs.YtigkndbkaagboaaGreatDoor.Ev
end
section
namespace Go.Proofs.YtigkndbkaagboaaGreatDoor.Ev
open Go hiding Obj
set_option linter.unusedVariables false
set_option linter.unusedSimpArgs false
set_option linter.unusedSectionVars false
variable [Gl]
theorem EsR.modify {r : Ren} : ∀ {es : List (Value × Value × Nat)} {es' : List MapEntry}, EsR r es es' → ∀ {k v v' : Value}, plain k = true → VR r v v' → ∀ (i : Nat),
    EsR r (es.modify i fun e => (k, v, e.2.2)) (es'.modify i fun e => { e with key := k, val := v' })
  | _, _, .nil, _, _, _, _, _, _ => by simpa using EsR.nil
  | _, _, .cons hk hv h, k, v, v', hp, hvv, 0 => by simpa using EsR.cons hp hvv h
  | _, _, .cons hk hv h, k, v, v', hp, hvv, i + 1 => by simpa using EsR.cons hk hv (EsR.modify h hp hvv i)
theorem EsR.snoc {r : Ren} : ∀ {es : List (Value × Value × Nat)} {es' : List MapEntry}, EsR r es es' → ∀ {k v v' : Value} (b : Nat), plain k = true → VR r v v' → EsR r (es ++ [(k, v, b)]) (es' ++ [{ key := k, val := v', born := b }])
  | _, _, .nil, _, _, _, b, hp, hvv => .cons hp hvv .nil
  | _, _, .cons hk hv h, _, _, _, b, hp, hvv => .cons hk hv (EsR.snoc h b hp hvv)
theorem EsR.erase {r : Ren} : ∀ {es : List (Value × Value × Nat)} {es' : List MapEntry}, EsR r es es' → ∀ (i : Nat), EsR r (es.eraseIdx i) (es'.eraseIdx i)
  | _, _, .nil, _ => by simpa using EsR.nil
  | _, _, .cons hk hv h, 0 => by simpa using h
  | _, _, .cons hk hv h, i + 1 => by simpa using EsR.cons hk hv (EsR.erase h i)
theorem EsR.getKey {r : Ren} : ∀ {es : List (Value × Value × Nat)} {es' : List MapEntry}, EsR r es es' → ∀ (i : Nat), (es'[i]?).map (·.key) = (es[i]?).map (·.1)
  | _, _, .nil, _ => by simp
  | _, _, .cons hk hv h, 0 => by simp
  | _, _, .cons hk hv h, i + 1 => by simpa using EsR.getKey h i
section
variable {P : Program}
/-- m[k] = v -/
noncomputable def mup (P : Program) (S : St) (t : TypeId) (x k v : Value) : Option St :=
  match P.underlying t, x with
  | some (.map key _), .map (some m) =>
    match S.get m with
    | some (.map es clock) =>
      bif plain k then
        match pureRun P (Instr.checkKey false 10000 key k), pureRun P (Instr.findKey key k (es.map ent)) with
        | some (), some (some (i, _)) =>
          match pureRun P (Instr.keyThatStays (((es[i]?).map (·.1)).getD k) k) with
          | some k' => bif plain k' then some (S.set m (.map (es.modify i fun e => (k', v, e.2.2)) clock)) else none
          | none => none
        | some (), some none => some (S.set m (.map (es ++ [(k, v, clock)]) (clock + 1)))
        | _, _ => none
      else none
    | _ => none
  | _, _ => none
theorem mup_sim {r : Ren} {S S' : St} {w : World} (hr : Rel r S w) {t : TypeId} {x x' k v v' : Value} (hx : VR r x x') (hv : VR r v v') (hb : mup P S t x k v = some S') : ∃ w', (Instr.mapUpdate t x' k v').run P w = .ok () w' ∧ Fr r S w r S' w' := by
  unfold mup at hb
  split at hb
  case h_2 => cases hb
  rename_i key el m hu
  split at hb
  case h_2 => cases hb
  rename_i es clock hg
  cases hp : plain k with
  | false => rw [hp] at hb; simp at hb
  | true =>
    rw [hp] at hb
    simp only [cond_true] at hb
    obtain ⟨hmn, es', h1, h2⟩ := hr.objs m _ hg
    have hget := run_getMap (P := P) h1 (fun _ _ _ h => by cases h)
    have hset := fun x => run_setMap (P := P) (x := x) h1 (fun _ _ _ h => by cases h)
    cases hx with
    | sc _ h => simp [scalar] at h
    | map _ hm =>
      split at hb
      · rename_i i vv hck hfk
        split at hb
        case h_2 => cases hb
        rename_i k' hkk
        cases hp' : plain k' with
        | false => rw [hp'] at hb; simp at hb
        | true =>
          rw [hp'] at hb
          simp only [cond_true, Option.some.injEq] at hb
          subst hb
          obtain ⟨res', f1, f2⟩ := findKey_rel (P := P) h2 hfk
          cases f2 with
          | some j hv2 =>
            have hks := pureRun_run hkk w
            have hgk := h2.getKey i
            refine ⟨_, ?_, hr.setO (ob' := .map (es.modify i fun e => (k', v, e.2.2)) clock) hg rfl rfl (x' := .map ⟨es'.modify i fun e => { e with key := k', val := v' }⟩ clock) fun w' _ hw' => ⟨_, hw', h2.modify hp' hv i⟩⟩
            have e1 : (⟨es'⟩ : Array MapEntry).modify i (fun e => { e with key := k', val := v' }) = ⟨es'.modify i fun e => { e with key := k', val := v' }⟩ := by
              apply Array.ext'; simp
            simp [Instr.mapUpdate, run_und hu, hget, pureRun_run hck w, f1 w, hgk, hks, hset, e1]
      · rename_i hck hfk
        simp only [Option.some.injEq] at hb
        subst hb
        obtain ⟨res', f1, f2⟩ := findKey_rel (P := P) h2 hfk
        cases f2 with
        | none =>
          refine ⟨_, ?_, hr.setO (ob' := .map (es ++ [(k, v, clock)]) (clock + 1)) hg rfl rfl (x' := .map ⟨es' ++ [{ key := k, val := v', born := clock }]⟩ (clock + 1)) fun w' _ hw' => ⟨_, hw', h2.snoc clock hp hv⟩⟩
          simp [Instr.mapUpdate, run_und hu, hget, pureRun_run hck w, f1 w, hset]
      · cases hb
/-- delete(m, k) -/
noncomputable def mdl (P : Program) (S : St) (t : TypeId) (x k : Value) : Option St :=
  match P.underlying t, x with
  | some (.map key _), .map (some m) =>
    match S.get m with
    | some (.map es clock) =>
      bif plain k then
        match pureRun P (Instr.checkKey es.isEmpty 10000 key k), pureRun P (Instr.findKey key k (es.map ent)) with
        | some (), some (some (i, _)) => some (S.set m (.map (es.eraseIdx i) clock))
        | some (), some none => some S
        | _, _ => none
      else none
    | _ => none
  | _, _ => none
theorem mdl_sim {r : Ren} {S S' : St} {w : World} (hr : Rel r S w) {t tk ty : TypeId} {x x' k : Value} (hx : VR r x x') (hb : mdl P S t x k = some S') : ∃ w', (Builtin.delete_ #[t, tk] ty #[x', k]).run P w = .ok (.tuple #[]) w' ∧ Fr r S w r S' w' := by
  unfold mdl at hb
  split at hb
  case h_2 => cases hb
  rename_i key el m hu
  split at hb
  case h_2 => cases hb
  rename_i es clock hg
  cases hp : plain k with
  | false => rw [hp] at hb; simp at hb
  | true =>
    rw [hp] at hb
    simp only [cond_true] at hb
    obtain ⟨hmn, es', h1, h2⟩ := hr.objs m _ hg
    have hget := run_getMap (P := P) h1 (fun _ _ _ h => by cases h)
    have hset := fun x => run_setMap (P := P) (x := x) h1 (fun _ _ _ h => by cases h)
    have hemp : es.isEmpty = es'.isEmpty := by cases h2 <;> rfl
    cases hx with
    | sc _ h => simp [scalar] at h
    | map _ hm =>
      split at hb
      · rename_i i vv hck hfk
        simp only [Option.some.injEq] at hb
        subst hb
        obtain ⟨res', f1, f2⟩ := findKey_rel (P := P) h2 hfk
        rw [hemp] at hck
        cases f2 with
        | some j hv2 =>
          refine ⟨_, ?_, hr.setO (ob' := .map (es.eraseIdx i) clock) hg rfl rfl (x' := .map ⟨es'.eraseIdx i⟩ clock) fun w' _ hw' => ⟨_, hw', h2.erase i⟩⟩
          have e1 : (⟨es'⟩ : Array MapEntry).eraseIdxIfInBounds i = ⟨es'.eraseIdx i⟩ := by
            apply Array.ext'
            unfold Array.eraseIdxIfInBounds
            split
            · simp
            · rename_i hlt
              simp only [List.size_toArray] at hlt
              exact (List.eraseIdx_of_length_le (by omega : es'.length ≤ i)).symm
          simp [Builtin.delete_, run_und hu, hget, pureRun_run hck w, f1 w, hset, e1]
      · rename_i hck hfk
        simp only [Option.some.injEq] at hb
        subst hb
        obtain ⟨res', f1, f2⟩ := findKey_rel (P := P) h2 hfk
        rw [hemp] at hck
        cases f2 with
        | none =>
          refine ⟨w, ?_, Fr.refl hr⟩
          have e2 : ({ w with heap := w.heap.setIfInBounds (r.μ m) (.map ⟨es'⟩ clock) } : World) = w := by
            have : w.heap.setIfInBounds (r.μ m) (.map ⟨es'⟩ clock) = w.heap := by
              apply Array.ext
              · simp
              · intro i hi1 hi2
                rw [Array.getElem_setIfInBounds]
                split
                · rename_i e; subst e
                  rw [Array.getElem?_eq_getElem hi2] at h1
                  injection h1 with h1
                  exact h1.symm
                · rfl
            rw [this]
          simp [Builtin.delete_, run_und hu, hget, pureRun_run hck w, f1 w, hset, e2]
      · cases hb
/-- A way through a string or a map. -/
noncomputable def rng (P : Program) (S : St) (t : TypeId) (x : Value) : Option (Value × St) :=
  match P.underlying t, x with
  | some .string, .string s => some (.pointer (some ⟨S.next, 0, none⟩), S.new (.siter s 0))
  | some (.map _ _), .map (some m) =>
    match S.get m with
    | some (.map _ clock) => some (.pointer (some ⟨S.next, 0, none⟩), S.new (.miter m clock [] clock))
    | _ => none
  | _, _ => none
theorem rng_sim {r : Ren} {S S' : St} {w : World} (hr : Rel r S w) {t : TypeId} {x x' v : Value} (hx : VR r x x') (hb : rng P S t x = some (v, S')) : ∃ r' w' v', (Instr.range t x').run P w = .ok v' w' ∧ Fr r S w r' S' w' ∧ VR r' v v' := by
  unfold rng at hb
  split at hb
  · rename_i s hu
    simp only [Option.some.injEq, Prod.mk.injEq] at hb
    obtain ⟨rfl, rfl⟩ := hb
    cases hx with
    | sc _ _ =>
      refine ⟨_, _, _, ?_, hr.push false (k := 0) rfl (i := S.next) rfl rfl (x := .stringIter s 0) (fun r' S' hle hm hd _ => ⟨hd, by rw [hm, heap_new']⟩), VR.newP hr _ _⟩
      simp [Instr.range, run_und hu, newObj, Sem.run]
  · rename_i k e m hu
    split at hb
    case h_2 => cases hb
    rename_i es clock hg
    simp only [Option.some.injEq, Prod.mk.injEq] at hb
    obtain ⟨rfl, rfl⟩ := hb
    obtain ⟨hmn, es', h1, h2⟩ := hr.objs m _ hg
    have hget := run_getMap (P := P) h1 (fun _ _ _ h => by cases h)
    cases hx with
    | sc _ h => simp [scalar] at h
    | map _ hm =>
      refine ⟨_, _, _, ?_, hr.push false (k := 0) rfl (i := S.next) rfl rfl (x := .mapIter (some (r.μ m)) clock #[] clock) (fun r' S' hle hm hd _ => ⟨Nat.lt_of_lt_of_le hmn hle.1, hd, by rw [hm, heap_new', (hle.2 m hmn).1]⟩), VR.newP hr _ _⟩
      simp [Instr.range, run_und hu, hget, newObj, Sem.run]
  · cases hb
/-- The entries that were not seen. -/
noncomputable def unseen (seen : List Nat) (es : List (Value × Value × Nat)) : List (Value × Value × Nat) := es.filter fun e => !seen.contains e.2.2
noncomputable def nxt (S : St) (it : Value) (str : Bool) : Option (Value × St) :=
  match it with
  | .pointer (some ⟨i, 0, none⟩) =>
    match S.get i, str with
    | some (.siter s pos), true =>
      bif Nat.blt pos s.size then some (.tuple #[.bool true, goInt pos, .int .i32 (Utf8.decode s pos).1], S.set i (.siter s (pos + (Utf8.decode s pos).2)))
      else some (.tuple #[.bool false], S)
    | some (.miter m since seen last), false =>
      match S.get m with
      | some (.map es clock) =>
        bif !seen.isEmpty && !es.isEmpty && es.all (fun e => Nat.ble last e.2.2) then none else
        match (unseen seen es).filter (fun e => Nat.blt e.2.2 since), (unseen seen es).filter (fun e => Nat.ble since e.2.2) with
        | [], [] => some (.tuple #[.bool false], S)
        | [e], [] => some (.tuple #[.bool true, e.1, e.2.1], S.set i (.miter m since (seen ++ [e.2.2]) clock))
        | _, _ => none
      | _ => none
    | _, _ => none
  | _ => none
theorem EsR.filter {r : Ren} (f : Nat → Bool) : ∀ {es : List (Value × Value × Nat)} {es' : List MapEntry}, EsR r es es' → EsR r (es.filter fun e => f e.2.2) (es'.filter fun e => f e.born)
  | _, _, .nil => by simpa using EsR.nil
  | _, _, .cons (b := b) hk hv h => by
    simp only [List.filter_cons]
    cases f b
    · simpa using EsR.filter f h
    · simpa using EsR.cons hk hv (EsR.filter f h)
theorem EsR.all {r : Ren} (f : Nat → Bool) : ∀ {es : List (Value × Value × Nat)} {es' : List MapEntry}, EsR r es es' → (es'.all fun e => f e.born) = (es.all fun e => f e.2.2)
  | _, _, .nil => rfl
  | _, _, .cons hk hv h => by simp [EsR.all f h]
theorem nxt_sim {r : Ren} {S S' : St} {w : World} (hr : Rel r S w) {it it' v : Value} (ty : TypeId) (hx : VR r it it') {str : Bool} (hb : nxt S it str = some (v, S')) : ∃ w' v', (Instr.next it' str ty).run P w = .ok v' w' ∧ Fr r S w r S' w' ∧ VR r v v' := by
  unfold nxt at hb
  split at hb
  case h_2 => cases hb
  rename_i i
  split at hb
  · rename_i s pos hg
    obtain ⟨hd, h1⟩ := (hr.objs i _ hg).2
    have hget := run_getMap (P := P) h1 (fun _ _ _ h => by cases h)
    have hset := fun x => run_setMap (P := P) (x := x) h1 (fun _ _ _ h => by cases h)
    cases hx with
    | sc _ h => simp [scalar] at h
    | ptr _ _ hn =>
      rw [hd]
      cases hlt : Nat.blt pos s.size with
      | true =>
        rw [hlt] at hb
        simp only [cond_true, Option.some.injEq, Prod.mk.injEq] at hb
        obtain ⟨rfl, rfl⟩ := hb
        have hlt' : pos < s.size := by simpa [Nat.blt_eq] using hlt
        refine ⟨_, _, ?_, hr.setO (ob' := .siter s (pos + (Utf8.decode s pos).2)) hg rfl rfl (x' := .stringIter s (pos + (Utf8.decode s pos).2)) (fun w' _ hw' => ⟨hd, hw'⟩), VR.pl rfl⟩
        simp [Instr.next, hget, hlt', hset]
      | false =>
        rw [hlt] at hb
        simp only [cond_false, Option.some.injEq, Prod.mk.injEq] at hb
        obtain ⟨rfl, rfl⟩ := hb
        have hlt' : ¬ pos < s.size := by
          intro h
          have : Nat.blt pos s.size = true := by simpa [Nat.blt_eq] using h
          rw [this] at hlt; cases hlt
        exact ⟨w, _, by simp [Instr.next, hget, hlt'], Fr.refl hr, VR.pl rfl⟩
  · rename_i m since seen last hg
    obtain ⟨hmn, hd, h1⟩ := (hr.objs i _ hg).2
    have hget := run_getMap (P := P) h1 (fun _ _ _ h => by cases h)
    have hset := fun x => run_setMap (P := P) (x := x) h1 (fun _ _ _ h => by cases h)
    split at hb
    case h_2 => cases hb
    rename_i es clock hgm
    obtain ⟨_, es', g1, g2⟩ := hr.objs m _ hgm
    have hgetm := run_getMap (P := P) g1 (fun _ _ _ h => by cases h)
    cases hguard : (!seen.isEmpty && !es.isEmpty && es.all (fun e => Nat.ble last e.2.2)) with
    | true => rw [hguard] at hb; simp at hb
    | false =>
      rw [hguard] at hb
      simp only [cond_false] at hb
      have hemp : es.isEmpty = es'.isEmpty := by cases g2 <;> rfl
      have hall : (es'.all fun e => decide (e.born ≥ last)) = es.all (fun e => Nat.ble last e.2.2) := by
        rw [← g2.all (fun b => Nat.ble last b)]
        congr 1
        funext e
        by_cases h : last ≤ e.born
        · rw [Nat.ble_eq_true_of_le h]; simpa using h
        · have : Nat.ble last e.born = false := by
            cases hq : Nat.ble last e.born
            · rfl
            · exact absurd (ble0 hq) h
          rw [this]; simpa using h
      have hU := g2.filter (fun b => !seen.contains b)
      have hO := hU.filter (fun b => Nat.blt b since)
      have hN := hU.filter (fun b => Nat.ble since b)
      have eO : ((es'.filter fun e => !seen.contains e.born).filter fun e => decide (e.born < since)) = ((es'.filter fun e => !seen.contains e.born).filter fun e => Nat.blt e.born since) := by
        congr 1; funext e
        by_cases h : e.born < since
        · have : Nat.blt e.born since = true := by simpa [Nat.blt_eq] using h
          rw [this]; simpa using h
        · have : Nat.blt e.born since = false := by
            cases hq : Nat.blt e.born since
            · rfl
            · exact absurd (by simpa [Nat.blt_eq] using hq) h
          rw [this]; simpa using h
      have eN : ((es'.filter fun e => !seen.contains e.born).filter fun e => decide (e.born ≥ since)) = ((es'.filter fun e => !seen.contains e.born).filter fun e => Nat.ble since e.born) := by
        congr 1; funext e
        by_cases h : since ≤ e.born
        · rw [Nat.ble_eq_true_of_le h]; simpa using h
        · have : Nat.ble since e.born = false := by
            cases hq : Nat.ble since e.born
            · rfl
            · exact absurd (ble0 hq) h
          rw [this]; simpa using h
      have hguard' : ¬ (((⟨seen⟩ : Array Nat).isEmpty = false ∧ (⟨es'⟩ : Array MapEntry).isEmpty = false) ∧ ((⟨es'⟩ : Array MapEntry).all fun e => decide (e.born ≥ last)) = true) := by
        rintro ⟨⟨q1, q2⟩, q3⟩
        rw [hemp, ← hall] at hguard
        have q1' : seen.isEmpty = false := by simpa using q1
        have q2' : es'.isEmpty = false := by simpa using q2
        have q3' : (es'.all fun e => decide (e.born ≥ last)) = true := by simpa using q3
        rw [q1', q2', q3'] at hguard
        cases hguard
      cases hx with
      | sc _ h => simp [scalar] at h
      | ptr _ _ hn =>
        rw [hd]
        have hc : (fun e : MapEntry => !(⟨seen⟩ : Array Nat).contains e.born) = fun e => !seen.contains e.born := by funext e; simp
        have A : ∀ (p : MapEntry → Bool), Array.filter p (Array.filter (fun e => !(⟨seen⟩ : Array Nat).contains e.born) ⟨es'⟩) = ⟨(es'.filter fun e => !seen.contains e.born).filter p⟩ := fun p => by
          apply Array.ext'
          rw [Array.toList_filter, Array.toList_filter, hc]
        unfold unseen at hb
        split at hb
        · rename_i o1 o2
          simp only [Option.some.injEq, Prod.mk.injEq] at hb
          obtain ⟨rfl, rfl⟩ := hb
          rw [o1, ← eO] at hO
          rw [o2, ← eN] at hN
          have z1 : ((es'.filter fun e => !seen.contains e.born).filter fun e => decide (e.born < since)) = [] := by generalize ((es'.filter fun e => !seen.contains e.born).filter fun e => decide (e.born < since)) = L at hO; cases hO; rfl
          have z2 : ((es'.filter fun e => !seen.contains e.born).filter fun e => decide (e.born ≥ since)) = [] := by generalize ((es'.filter fun e => !seen.contains e.born).filter fun e => decide (e.born ≥ since)) = L at hN; cases hN; rfl
          refine ⟨w, _, ?_, Fr.refl hr, VR.pl rfl⟩
          simp only [Instr.next, Sem.run_bind, hget, Result.andThen_ok, hgetm]
          rw [if_neg (by simpa using hguard')]
          rw [A, A, z1, z2]
          simp [choose, Sem.run, Question.forced]
        · rename_i e o1 o2
          simp only [Option.some.injEq, Prod.mk.injEq] at hb
          obtain ⟨rfl, rfl⟩ := hb
          rw [o1, ← eO] at hO
          rw [o2, ← eN] at hN
          obtain ⟨ek, ev, eb⟩ := e
          have z1 : ∃ v', ((es'.filter fun e => !seen.contains e.born).filter fun e => decide (e.born < since)) = [{ key := ek, val := v', born := eb }] ∧ plain ek = true ∧ VR r ev v' := by
            generalize ((es'.filter fun e => !seen.contains e.born).filter fun e => decide (e.born < since)) = L at hO
            cases hO with
            | cons hk hv h => cases h; exact ⟨_, rfl, hk, hv⟩
          obtain ⟨v', z1, hk, hv⟩ := z1
          have z2 : ((es'.filter fun e => !seen.contains e.born).filter fun e => decide (e.born ≥ since)) = [] := by generalize ((es'.filter fun e => !seen.contains e.born).filter fun e => decide (e.born ≥ since)) = L at hN; cases hN; rfl
          refine ⟨_, _, ?_, hr.setO (ob' := .miter m since (seen ++ [eb]) clock) hg rfl rfl (x' := .mapIter (some (r.μ m)) since ⟨seen ++ [eb]⟩ clock) (fun w' _ hw' => ⟨hmn, hd, hw'⟩), .tuple (.cons (.sc _ rfl) (.cons (VR.pl hk) (.cons hv .nil)))⟩
          simp only [Instr.next, Sem.run_bind, hget, Result.andThen_ok, hgetm]
          rw [if_neg (by simpa using hguard')]
          rw [A, A, z1, z2]
          simp [choose, Sem.run, Question.forced, hset]
        · cases hb
  · cases hb
end
end Go.Proofs.YtigkndbkaagboaaGreatDoor.Ev
end
section
namespace Go.Proofs.YtigkndbkaagboaaGreatDoor.Ev
open Go hiding Obj
set_option linter.unusedVariables false
set_option linter.unusedSimpArgs false
set_option linter.unusedSectionVars false
variable [Gl]
section
variable {P : Program}
/-- x == y of things that lead somewhere. -/
noncomputable def eqv (P : Program) (t : TypeId) (x y : Value) : Option Bool :=
  match P.underlying t with
  | some (.pointer e) =>
    match x, y with
    | .pointer none, .pointer (some _) => some false
    | .pointer (some _), .pointer none => some false
    | .pointer (some ⟨b, o, none⟩), .pointer (some ⟨b', o', none⟩) => match P.info? e with
      | some ie => bif Nat.beq ie.size 0 then none else bif Nat.beq b b' then some (Nat.beq o o') else none
      | none => none
    | _, _ => none
  | some (.slice _) =>
    match x, y with
    | .slice none _ _, .slice (some _) _ _ => some false
    | .slice (some _) _ _, .slice none _ _ => some false
    | _, _ => none
  | some (.map _ _) =>
    match x, y with
    | .map none, .map (some _) => some false
    | .map (some _), .map none => some false
    | _, _ => none
  | some (.interface _) =>
    match x, y with
    | .nilIface, .iface _ _ => some false
    | .iface _ _, .nilIface => some false
    | _, _ => none
  | some (.func _ _ _) =>
    match x, y with
    | .nilFunc, .func _ _ _ => some false
    | .func _ _ _, .nilFunc => some false
    | _, _ => none
  | _ => none
theorem eqvD_sim (d : Nat) {r : Ren} {t : TypeId} {x x' y y' : Value} (hx : VR r x x') (hy : VR r y y') {b : Bool} (hb : eqv P t x y = some b) (w : World) : (Op.equalIn (d + 1) t x' y').run P w = .ok b w := by
  unfold eqv at hb
  split at hb
  · rename_i e hu
    split at hb
    · simp only [Option.some.injEq] at hb; subst hb
      cases hx with
      | sc _ _ => cases hy with
        | sc _ h => simp [scalar] at h
        | ptr b o h => simp [Op.equalIn, run_und hu]
    · simp only [Option.some.injEq] at hb; subst hb
      cases hy with
      | sc _ _ => cases hx with
        | sc _ h => simp [scalar] at h
        | ptr b o h => simp [Op.equalIn, run_und hu]
    · rename_i b1 o1 b2 o2
      split at hb
      case h_2 => cases hb
      rename_i ie hi
      cases h0 : Nat.beq ie.size 0 with
      | true => rw [h0] at hb; simp at hb
      | false =>
        rw [h0] at hb
        simp only [cond_false] at hb
        cases hbb : Nat.beq b1 b2 with
        | false => rw [hbb] at hb; simp at hb
        | true =>
          rw [hbb] at hb
          simp only [cond_true, Option.some.injEq] at hb
          obtain rfl := beq0 hbb
          have h0 := nbeq0 h0
          subst hb
          cases hx with
          | sc _ h => simp [scalar] at h
          | ptr _ _ _ => cases hy with
            | sc _ h => simp [scalar] at h
            | ptr _ _ _ =>
              have e1 : ((⟨r.μ b1, o1 + r.δ b1, none⟩ : Addr) == ⟨r.μ b1, o2 + r.δ b1, none⟩) = Nat.beq o1 o2 := by
                by_cases h : o1 = o2
                · subst h; simp
                · have : Nat.beq o1 o2 = false := by
                    cases hq : Nat.beq o1 o2
                    · rfl
                    · exact absurd (beq0 hq) h
                  rw [this]; simp [h]
              simp [Op.equalIn, run_und hu, run_so hi, h0, sameAddr, e1]
    · cases hb
  · rename_i e hu
    split at hb
    · simp only [Option.some.injEq] at hb; subst hb
      cases hx with
      | sc _ _ => cases hy with
        | sc _ h => simp [scalar] at h
        | slE => simp [Op.equalIn, run_und hu]
        | slO => simp [Op.equalIn, run_und hu]
        | slK => simp [Op.equalIn, run_und hu]
    · simp only [Option.some.injEq] at hb; subst hb
      cases hy with
      | sc _ _ => cases hx with
        | sc _ h => simp [scalar] at h
        | slE => simp [Op.equalIn, run_und hu]
        | slO => simp [Op.equalIn, run_und hu]
        | slK => simp [Op.equalIn, run_und hu]
    · cases hb
  · rename_i k e hu
    split at hb
    · simp only [Option.some.injEq] at hb; subst hb
      cases hx with
      | sc _ _ => cases hy with
        | sc _ h => simp [scalar] at h
        | map => simp [Op.equalIn, run_und hu]
    · simp only [Option.some.injEq] at hb; subst hb
      cases hy with
      | sc _ _ => cases hx with
        | sc _ h => simp [scalar] at h
        | map => simp [Op.equalIn, run_und hu]
    · cases hb
  · rename_i ms hu
    split at hb
    · simp only [Option.some.injEq] at hb; subst hb
      cases hx with
      | sc _ _ => cases hy with
        | sc _ h => simp [scalar] at h
        | iface => simp [Op.equalIn, run_und hu]
    · simp only [Option.some.injEq] at hb; subst hb
      cases hy with
      | sc _ _ => cases hx with
        | sc _ h => simp [scalar] at h
        | iface => simp [Op.equalIn, run_und hu]
    · cases hb
  · rename_i a1 a2 a3 hu
    split at hb
    · simp only [Option.some.injEq] at hb; subst hb
      cases hx with
      | sc _ _ => cases hy with
        | sc _ h => simp [scalar] at h
        | func => simp [Op.equalIn, run_und hu]
    · simp only [Option.some.injEq] at hb; subst hb
      cases hy with
      | sc _ _ => cases hx with
        | sc _ h => simp [scalar] at h
        | func => simp [Op.equalIn, run_und hu]
    · cases hb
  · cases hb
theorem eqv_sim {r : Ren} {t : TypeId} {x x' y y' : Value} (hx : VR r x x') (hy : VR r y y') {b : Bool} (hb : eqv P t x y = some b) (w : World) : (Op.equal t x' y').run P w = .ok b w := eqvD_sim 9999 hx hy hb w
/-- Values of which '==' asks nothing ahead. -/
noncomputable def unguarded : Value → Bool
  | .nilIface | .agg _ => false
  | _ => true
noncomputable def eqB (P : Program) (op : BinOp) (t : TypeId) (x y : Value) : Option Value :=
  match op with
  | .eql => bif unguarded x || unguarded y then (match eqv P t x y with | some b => some (.bool b) | none => none) else none
  | .neq => bif unguarded x || unguarded y then (match eqv P t x y with | some b => some (.bool !b) | none => none) else none
  | _ => none
theorem eqv_shape {t : TypeId} {x y : Value} {b : Bool} (h : eqv P t x y = some b) : (∃ p q, x = .pointer p ∧ y = .pointer q) ∨ (∃ p q l m c d, x = .slice p l c ∧ y = .slice q m d) ∨ (∃ p q, x = .map p ∧ y = .map q) ∨
    (x = .nilIface ∧ ∃ t v, y = .iface t v) ∨ (y = .nilIface ∧ ∃ t v, x = .iface t v) ∨ (x = .nilFunc ∧ ∃ f a c, y = .func f a c) ∨ (y = .nilFunc ∧ ∃ f a c, x = .func f a c) := by
  unfold eqv at h
  (repeat' split at h) <;> simp_all
theorem eqB_sim {r : Ren} {op : BinOp} {t : TypeId} {x x' y y' v : Value} (hx : VR r x x') (hy : VR r y y') (X Y : Operand) (hb : eqB P op t x y = some v) (w : World) :
    (do eqGuard op t X Y x' y'; binOp op t x' y' : Sem Value).run P w = .ok v w ∧ plain v = true := by
  have key : ∀ b, eqv P t x y = some b → (op = .eql ∧ v = .bool b ∨ op = .neq ∧ v = .bool !b) → (do eqGuard op t X Y x' y'; binOp op t x' y' : Sem Value).run P w = .ok v w ∧ plain v = true := fun b he hop => by
    have hs := eqv_sim hx hy he w
    have hsh := eqv_shape he
    refine ⟨?_, by rcases hop with ⟨_, rfl⟩ | ⟨_, rfl⟩ <;> rfl⟩
    rcases hsh with ⟨p, q, rfl, rfl⟩ | ⟨p, q, l, m, c, d, rfl, rfl⟩ | ⟨p, q, rfl, rfl⟩ | ⟨rfl, t', v', rfl⟩ | ⟨rfl, t', v', rfl⟩ | ⟨rfl, f, a, c, rfl⟩ | ⟨rfl, f, a, c, rfl⟩ <;>
      cases hx <;> cases hy <;> rcases hop with ⟨rfl, rfl⟩ | ⟨rfl, rfl⟩ <;> simp [eqGuard, binOp, hs]
  unfold eqB at hb
  split at hb
  · cases hg : (unguarded x || unguarded y) with
    | false => rw [hg] at hb; simp at hb
    | true =>
      rw [hg] at hb
      simp only [cond_true] at hb
      split at hb
      · rename_i b he
        simp only [Option.some.injEq] at hb
        exact key b he (.inl ⟨rfl, hb.symm⟩)
      · cases hb
  · cases hg : (unguarded x || unguarded y) with
    | false => rw [hg] at hb; simp at hb
    | true =>
      rw [hg] at hb
      simp only [cond_true] at hb
      split at hb
      · rename_i b he
        simp only [Option.some.injEq] at hb
        exact key b he (.inr ⟨rfl, hb.symm⟩)
      · cases hb
  · cases hb
theorem ld_ptr {S : St} {t : TypeId} {a x : Value} (h : ld P S t a = some x) : ∃ b o, a = .pointer (some ⟨b, o, none⟩) := by
  unfold ld at h
  split at h
  · exact ⟨_, _, rfl⟩
  · cases h
/-- The method of a value in an interface. -/
noncomputable def mth (P : Program) (S : St) (t : TypeId) (v : Value) (name : String) : Option (FuncId × Value) :=
  match P.info? t with
  | some i =>
    match i.methods.find? (·.name == name) with
    | some m =>
      match m.func, m.path.toList with
      | some (f, true), [] => match P.underlying t with | some (.pointer _) => some (f, v) | _ => none
      | some (f, false), [] => match P.underlying t with | some (.struct _) => some (f, v) | _ => none
      | some (f, true), [s] =>
        bif s.deref then
          match P.underlying s.struct with
          | some (.struct fs) => match fs[s.index]? with
            | some fl => match fla P s.struct v s.index, P.underlying fl.type with
              | some a, some (.pointer _) => match ld P S fl.type a with
                | some x => some (f, x)
                | none => none
              | _, _ => none
            | none => none
          | _ => none
        else none
      | _, _ => none
    | none => none
  | none => none
theorem mth_sim {r : Ren} {S : St} {w : World} (hr : Rel r S w) {t : TypeId} {v v' x : Value} (hv : VR r v v') {name : String} {f : FuncId} (hb : mth P S t v name = some (f, x)) (k : Nat) :
    ∃ x', (method (k + 1) t v' name).run P w = .ok (f, x') w ∧ VR r x x' := by
  unfold mth at hb
  split at hb
  case h_2 => cases hb
  rename_i i hi
  split at hb
  case h_2 => cases hb
  rename_i m hm
  split at hb
  · rename_i f' hf hp
    split at hb
    · rename_i e hu
      simp only [Option.some.injEq, Prod.mk.injEq] at hb
      obtain ⟨rfl, rfl⟩ := hb
      exact ⟨v', by simp [method, run_ti hi, hm, hp, follow, hf, receiverAt, run_und hu, Place.get], hv⟩
    · cases hb
  · rename_i f' hf hp
    split at hb
    · rename_i e hu
      simp only [Option.some.injEq, Prod.mk.injEq] at hb
      obtain ⟨rfl, rfl⟩ := hb
      exact ⟨v', by simp [method, run_ti hi, hm, hp, follow, hf, receiverAt, run_und hu, Place.get], hv⟩
    · cases hb
  · rename_i f' s hf hp
    cases hd : s.deref with
    | false => rw [hd] at hb; simp at hb
    | true =>
      rw [hd] at hb
      simp only [cond_true] at hb
      split at hb
      case h_2 => cases hb
      rename_i fs hu
      split at hb
      case h_2 => cases hb
      rename_i fl hfl
      split at hb
      case h_2 => cases hb
      rename_i a e ha hu2
      split at hb
      case h_2 => cases hb
      rename_i x2 hld
      simp only [Option.some.injEq, Prod.mk.injEq] at hb
      obtain ⟨rfl, rfl⟩ := hb
      obtain ⟨a', h1, h2⟩ := fla_sim (P := P) hv ha w
      obtain ⟨x', h3, h4⟩ := ld_sim (P := P) hr h2 hld
      refine ⟨x', ?_, h4⟩
      have hpt : ∃ A, v' = .pointer (some A) := by
        unfold fla at ha
        split at ha
        · cases hv with
          | sc _ h => simp [scalar] at h
          | ptr => exact ⟨_, rfl⟩
        · cases ha
      obtain ⟨A, rfl⟩ := hpt
      have hpt2 : ∃ A', a' = .pointer (some A') := by
        obtain ⟨b, o, rfl⟩ := ld_ptr hld
        cases h2 with
        | ptr => exact ⟨_, rfl⟩
        | sc v h => simp [scalar] at h
      obtain ⟨A', rfl⟩ := hpt2
      simp [Instr.fieldAt, run_und hu, hfl, Instr.sureAddr] at h1
      simp [Instr.loadAt, Instr.sureAddr] at h3
      have h1' : (fieldPlace A fl).run P w = .ok A' w := by
        cases hfp : (fieldPlace A fl).run P w with
        | ok q w2 => rw [hfp] at h1; simp at h1; obtain ⟨rfl, rfl⟩ := h1; rfl
        | halt q w2 => rw [hfp] at h1; simp at h1
      simp [method, run_ti hi, hm, hp, follow, run_und hu, hfl, hd, Place.get, asAddr, h1', hf, receiverAt, run_und hu2, h3]
  · cases hb
end
end Go.Proofs.YtigkndbkaagboaaGreatDoor.Ev
end
section
namespace Go.Proofs.YtigkndbkaagboaaGreatDoor.Ev
open Go hiding Obj
set_option linter.unusedVariables false
set_option linter.unusedSimpArgs false
set_option linter.unusedSectionVars false
variable [Gl]
inductive Out where
  | val (v : Value) (S : St)
  | call (f : FuncId) (args : List Value)
section
variable {P : Program}
noncomputable def enters (P : Program) (f : FuncId) : Bool := match P.funcs[f]? with | some fn => !(fn.name == "runtime.NumGoroutine") && fn.body.isSome | none => false
theorem enters_run {f : FuncId} (h : enters P f = true) (args : Array Value) (w : World) : (callFunc f args).run P w = .ok (.enter f args) w := by
  unfold enters at h
  split at h
  · rename_i fn hf
    simp only [Bool.and_eq_true, Bool.not_eq_true'] at h
    obtain ⟨h1, h2⟩ := h
    have h1' : ¬ fn.name = "runtime.NumGoroutine" := by simpa using h1
    simp [callFunc, hf, h1']
    intro hb
    rw [hb] at h2
    cases h2
  · cases h
noncomputable def opnds (ρ : Operand → Option Value) : List Operand → Option (List Value)
  | [] => some []
  | x :: xs => match ρ x, opnds ρ xs with | some v, some vs => some (v :: vs) | _, _ => none
theorem opnds_sim {r : Ren} {ρ : Operand → Option Value} {ρ' : Operand → Value} : ∀ {l : List Operand}, (∀ x ∈ l, ∀ v, ρ x = some v → VR r v (ρ' x)) → ∀ {vs : List Value}, opnds ρ l = some vs → VRs r vs (l.map ρ')
  | [], _, vs, h => by simp only [opnds, Option.some.injEq] at h; subst h; exact .nil
  | x :: xs, hρ, vs, h => by
    unfold opnds at h
    split at h
    · rename_i v vs' h1 h2
      simp only [Option.some.injEq] at h
      subst h
      exact .cons (hρ x (by simp) v h1) (opnds_sim (fun y hy => hρ y (by simp [hy])) h2)
    · cases h
noncomputable def pairs (ρ : Operand → Option Value) : List (Nat × Operand) → Option (List (Nat × Value))
  | [] => some []
  | (i, x) :: xs => match ρ x, pairs ρ xs with | some v, some vs => some ((i, v) :: vs) | _, _ => none
theorem pairs_sim {r : Ren} {ρ : Operand → Option Value} {ρ' : Operand → Value} : ∀ {l : List (Nat × Operand)}, (∀ x ∈ l.map (·.2), ∀ v, ρ x = some v → VR r v (ρ' x)) → ∀ {vs : List (Nat × Value)}, pairs ρ l = some vs → PsR r vs (l.map fun (i, x) => (i, ρ' x))
  | [], _, vs, h => by simp only [pairs, Option.some.injEq] at h; subst h; exact .nil
  | (i, x) :: xs, hρ, vs, h => by
    unfold pairs at h
    split at h
    · rename_i v vs' h1 h2
      simp only [Option.some.injEq] at h
      subst h
      exact .cons (hρ x (by simp) v h1) (pairs_sim (fun y hy => hρ y (by rw [List.map_cons]; exact List.mem_cons_of_mem _ hy)) h2)
    · cases h
noncomputable def plainAll (ρ : Operand → Option Value) (l : List Operand) : Bool := l.all fun x => match ρ x with | some v => plain v | none => false
noncomputable def isSelect : Op → Bool
  | .select .. => true
  | _ => false
/-- What asks nothing of the world, of values that lead nowhere. -/
noncomputable def fbk (P : Program) (S : St) (ρ : Operand → Option Value) (o : Oper) : Option Out :=
  bif plainAll ρ o.op.operands.toList && !isSelect o.op then
    match pureRun P (execOp (fun x => (ρ x).getD undef) o) with
    | some (.value v) => bif plain v then some (.val v S) else none
    | _ => none
  else none
noncomputable def callA (P : Program) (S : St) (g : FuncId) (args : List Value) : Option Out :=
  bif enters P g then some (.call g args) else
  bif args.all plain then
    match pureRun P (callFunc g ⟨args⟩) with
    | some (.value v) => bif plain v then some (.val v S) else none
    | _ => none
  else none
/-- An optional bound. -/
noncomputable def bnd (ρ : Operand → Option Value) : Option Operand → Option (Option Value)
  | none => some none
  | some x => match ρ x with | some v => some (some v) | none => none
noncomputable def outV : Option Value → St → Option Out
  | some v, S => some (.val v S)
  | none, _ => none
noncomputable def outVS : Option (Value × St) → Option Out
  | some (v, S) => some (.val v S)
  | none => none
noncomputable def outS : Option St → Option Out
  | some S => some (.val undef S)
  | none => none
/-- Built-in functions. -/
noncomputable def bltA (P : Program) (S : St) (b : Builtin) (ts : List TypeId) (args : List Value) : Option Out :=
  match b, ts, args with
  | .append, [ts, tx], [s, x] => outVS (app P S ts tx s x)
  | .copy, [td, tx], [d, x] => outVS (cpy P S td tx d x)
  | .clear, [t], [x] => outS (clr P S t x)
  | .delete, [t, _], [m, k] => outS (mdl P S t m k)
  | .len, [t], [x] => bif plain x then none else match P.underlying t, x with
    | some (.slice _), .slice _ n _ => some (.val (goInt n) S)
    | some (.map _ _), .map (some m) => match S.get m with
      | some (.map es _) => some (.val (goInt es.length) S)
      | _ => none
    | _, _ => none
  | .cap, [t], [x] => bif plain x then none else match P.underlying t, x with
    | some (.slice _), .slice (some ⟨b, _, none⟩) _ n => bif Nat.beq (b % 2) 0 then some (.val (goInt n) S) else none
    | _, _ => none
  | _, _, _ => none
noncomputable def aop (P : Program) (S : St) (ρ : Operand → Option Value) (o : Oper) : Option Out :=
  match o.op with
  | .move x | .assign x => outV (ρ x) S
  | .pick c a b => match ρ c, ρ a, ρ b with
    | some (.bool t), some va, some vb => some (.val (bif t then va else vb) S)
    | _, _, _ => none
  | .alloc e => match zeroOf P e with
    | some z => bif plain z then outVS (alc S e z.cells.toList) else none
    | none => none
  | .box e x => match ρ x with
    | some v => outVS (alc S e v.cells.toList)
    | none => none
  | .build t ps => match pairs ρ ps.toList with
    | some vs => outV (bld P t vs) S
    | none => none
  | .buildSlice t n ps => match pairs ρ ps.toList with
    | some vs => outVS (bldS P S t n vs)
    | none => none
  | .load t a => match ρ a with
    | some v => outV (ld P S t v) S
    | none => none
  | .store t a x => match ρ a, ρ x with
    | some v, some u => outS (sto P S t v u)
    | _, _ => none
  | .nilCheck x => match ρ x with
    | some (.pointer (some a)) => some (.val (.pointer (some a)) S)
    | some (.iface t v) => some (.val (.iface t v) S)
    | some (.func (.func f) a c) => some (.val (.func (.func f) a c) S)
    | _ => none
  | .binOp op t x y _ => match ρ x, ρ y with
    | some a, some b => bif plain a && plain b then fbk P S ρ o else outV (eqB P op t a b) S
    | _, _ => none
  | .convert src dst x => match ρ x with
    | some v => match cvt P S src dst v with
      | some (v, S') => some (.val v S')
      | none => fbk P S ρ o
    | none => none
  | .makeInterface t x => match ρ x with
    | some v => match P.underlying t with
      | some (.interface _) | none => none
      | some _ => some (.val (.iface t v) S)
    | none => none
  | .makeFunc fn a c => match opnds ρ a.toList, opnds ρ c.toList with
    | some va, some vc => some (.val (.func fn ⟨va⟩ ⟨vc⟩) S)
    | _, _ => none
  | .makeMap t h => match bnd ρ h with
    | some h => outVS (mkM P S t h)
    | none => none
  | .makeSlice t l c => match ρ l, ρ c with
    | some a, some b => outVS (mkS P S t a b)
    | _, _ => none
  | .slice t x lo hi mx => match ρ x, bnd ρ lo, bnd ρ hi, bnd ρ mx with
    | some v, some l, some h, some m => bif plain v then fbk P S ρ o else outVS (slc P S t v l h m)
    | _, _, _, _ => none
  | .fieldAddr s x f => match ρ x with
    | some v => outV (fla P s v f) S
    | none => none
  | .field t x f => match ρ x with
    | some v => outV (fld P t v f) S
    | none => none
  | .indexAddr t x i => match ρ x, ρ i with
    | some v, some j => bif scalar j then outV (ixa P t v j) S else none
    | _, _ => none
  | .index t x i => match ρ x, ρ i with
    | some v, some j => bif plain v && plain j then fbk P S ρ o else bif scalar j then outV (idx P t v j) S else none
    | _, _ => none
  | .lookup t x k ok => match ρ x, ρ k with
    | some v, some j => outV (lkp P S t v j ok) S
    | _, _ => none
  | .mapUpdate t m k x | .insert t m k x => match ρ m, ρ k, ρ x with
    | some a, some b, some c => outS (mup P S t a b c)
    | _, _, _ => none
  | .range t x => match ρ x with
    | some v => outVS (rng P S t v)
    | none => none
  | .next it str => match ρ it with
    | some v => outVS (nxt S v str)
    | none => none
  | .extract t i => match ρ t with
    | some (.tuple vs) => outV vs[i]? S
    | _ => none
  | .call c =>
    match opnds ρ c.args.toList with
    | some args =>
      match c.callee with
      | .value f => match ρ f with
        | some (.func (.func g) first captured) => callA P S g (first.toList ++ args ++ captured.toList)
        | _ => none
      | .invoke recv name => match ρ recv with
        | some (.iface t v) => match mth P S t v name with
          | some (g, x) => callA P S g (x :: args)
          | none => none
        | _ => none
      | .builtin b => match bltA P S b c.argTypes.toList args with
        | some out => some out
        | none => fbk P S ρ o
    | none => none
  | _ => fbk P S ρ o
/-- What an operation comes to. -/
noncomputable def OutR (r : Ren) (S : St) (w : World) : Out → Result Next → Prop
  | .val v S', .ok nx w' => ∃ r' v', Fr r S w r' S' w' ∧ VR r' v v' ∧ (nx = .value v' ∨ (nx = .skip ∧ v' = undef))
  | .call f args, .ok nx w' => w' = w ∧ ∃ args', nx = .enter f ⟨args'⟩ ∧ VRs r args args'
  | _, _ => False
theorem fbk_sim {r : Ren} {S : St} {w : World} (hr : Rel r S w) {ρ : Operand → Option Value} {ρ' : Operand → Value} {o : Oper} (hρ : ∀ x ∈ o.op.operands, ∀ v, ρ x = some v → VR r v (ρ' x)) {out : Out} (h : fbk P S ρ o = some out) :
    OutR r S w out ((execOp ρ' o).run P w) := by
  unfold fbk at h
  cases hc : (plainAll ρ o.op.operands.toList && !isSelect o.op) with
  | false => rw [hc] at h; simp at h
  | true =>
    rw [hc] at h
    simp only [cond_true] at h
    simp only [Bool.and_eq_true, Bool.not_eq_true'] at hc
    obtain ⟨c1, c2⟩ := hc
    have hcongr : execOp ρ' o = execOp (fun x => (ρ x).getD undef) o := by
      refine execOp_congr o (fun cs b e => by rw [e] at c2; simp [isSelect] at c2) fun x hx => ?_
      have := List.all_eq_true.1 c1 x (by simpa using hx)
      cases hv : ρ x with
      | none => rw [hv] at this; simp at this
      | some v =>
        rw [hv] at this
        simp only [Option.getD_some]
        exact (hρ x hx v hv).plain_eq this
    split at h
    · rename_i v hp
      cases hpl : plain v with
      | false => rw [hpl] at h; simp at h
      | true =>
        rw [hpl] at h
        simp only [cond_true, Option.some.injEq] at h
        subst h
        rw [hcongr, pureRun_run hp w]
        exact ⟨r, v, Fr.refl hr, VR.pl hpl, .inl rfl⟩
    · cases h
theorem callA_sim {r : Ren} {S : St} {w : World} (hr : Rel r S w) {g : FuncId} {args args' : List Value} (ha : VRs r args args') {out : Out} (h : callA P S g args = some out) : OutR r S w out ((callFunc g ⟨args'⟩).run P w) := by
  unfold callA at h
  cases he : enters P g with
  | true =>
    rw [he] at h
    simp only [cond_true, Option.some.injEq] at h
    subst h
    rw [enters_run he]
    exact ⟨rfl, args', rfl, ha⟩
  | false =>
    rw [he] at h
    simp only [cond_false] at h
    cases hp : args.all plain with
    | false => rw [hp] at h; simp at h
    | true =>
      rw [hp] at h
      simp only [cond_true] at h
      have : args' = args := by
        have : ∀ {xs ys : List Value}, VRs r xs ys → xs.all plain = true → ys = xs := by
          intro xs ys hh
          induction xs generalizing ys with
          | nil => intro _; cases hh; rfl
          | cons x xs ih =>
            intro hp
            cases hh with
            | cons h1 h2 =>
              simp only [List.all_cons, Bool.and_eq_true] at hp
              rw [h1.plain_eq hp.1, ih h2 hp.2]
        exact this ha hp
      subst this
      split at h
      · rename_i v hpr
        cases hpl : plain v with
        | false => rw [hpl] at h; simp at h
        | true =>
          rw [hpl] at h
          simp only [cond_true, Option.some.injEq] at h
          subst h
          rw [pureRun_run hpr w]
          exact ⟨r, v, Fr.refl hr, VR.pl hpl, .inl rfl⟩
      · cases h
theorem bnd_sim {r : Ren} {ρ : Operand → Option Value} {ρ' : Operand → Value} {x : Option Operand} (hρ : ∀ y, x = some y → ∀ v, ρ y = some v → VR r v (ρ' y)) {l : Option Value} (h : bnd ρ x = some l) {n : Option Nat} (hn : numO l = some n) : x.map ρ' = l := by
  cases x with
  | none => simp only [bnd, Option.some.injEq] at h; subst h; rfl
  | some y =>
    unfold bnd at h
    simp only at h
    split at h
    · rename_i v hv
      simp only [Option.some.injEq] at h
      subst h
      cases n with
      | none => exact absurd (numO_none hn) (by simp)
      | some n =>
        obtain ⟨k, hk⟩ := numO_some hn
        simp only [Option.some.injEq] at hk
        subst hk
        have := hρ y rfl _ hv
        simp only [Option.map_some]
        rw [this.sc_eq rfl]
    · cases h
theorem out_val {r r' : Ren} {S S' : St} {w w' : World} {v v' : Value} {s : Sem Value} (h : s.run P w = .ok v' w') (hf : Fr r S w r' S' w') (hv : VR r' v v') : OutR r S w (.val v S') ((do pure (.value (← s)) : Sem Next).run P w) := by
  have : (do pure (.value (← s)) : Sem Next).run P w = .ok (.value v') w' := by simp [h]
  rw [this]
  exact ⟨r', v', hf, hv, .inl rfl⟩
theorem out_skip {r r' : Ren} {S S' : St} {w w' : World} {s : Sem Unit} (h : s.run P w = .ok () w') (hf : Fr r S w r' S' w') : OutR r S w (.val undef S') ((do s; pure .skip : Sem Next).run P w) := by
  have : (do s; pure .skip : Sem Next).run P w = .ok .skip w' := by simp [h]
  rw [this]
  exact ⟨r', undef, hf, .tuple .nil, .inr ⟨rfl, rfl⟩⟩
theorem outV_some {x : Option Value} {S : St} {out : Out} (h : outV x S = some out) : ∃ v, x = some v ∧ out = .val v S := by
  cases x with
  | none => cases h
  | some v => simp only [outV, Option.some.injEq] at h; exact ⟨v, rfl, h.symm⟩
theorem outVS_some {x : Option (Value × St)} {out : Out} (h : outVS x = some out) : ∃ v S, x = some (v, S) ∧ out = .val v S := by
  cases x with
  | none => cases h
  | some q => obtain ⟨v, S⟩ := q; simp only [outVS, Option.some.injEq] at h; exact ⟨v, S, rfl, h.symm⟩
theorem outS_some {x : Option St} {out : Out} (h : outS x = some out) : ∃ S, x = some S ∧ out = .val undef S := by
  cases x with
  | none => cases h
  | some S => simp only [outS, Option.some.injEq] at h; exact ⟨S, rfl, h.symm⟩
theorem VRs.two {r : Ren} {a b : Value} {l : List Value} (h : VRs r [a, b] l) : ∃ y z, l = [y, z] ∧ VR r a y ∧ VR r b z := by
  cases h with
  | cons h1 h => cases h with
    | cons h2 h => cases h; exact ⟨_, _, rfl, h1, h2⟩
theorem VRs.one' {r : Ren} {a : Value} {l : List Value} (h : VRs r [a] l) : ∃ y, l = [y] ∧ VR r a y := by
  cases h with
  | cons h1 h => cases h; exact ⟨_, rfl, h1⟩
theorem arr2 {α : Type} {x : Array α} {a b : α} (h : x.toList = [a, b]) : x = #[a, b] := by apply Array.ext'; simpa using h
theorem arr1 {α : Type} {x : Array α} {a : α} (h : x.toList = [a]) : x = #[a] := by apply Array.ext'; simpa using h
theorem builtin_sim {r : Ren} {S : St} {w : World} (hr : Rel r S w) {c : Call} {b : Builtin} {type : TypeId} {ρ' : Operand → Value} {args : List Value} (ha : VRs r args (c.args.toList.map ρ')) {out : Out}
    (h : bltA P S b c.argTypes.toList args = some out) (cs : Array Bool) : OutR r S w out ((Go.builtin b c.argTypes type cs (c.args.map ρ')).run P w) := by
  have eargs : c.args.map ρ' = ⟨c.args.toList.map ρ'⟩ := by apply Array.ext'; simp
  rw [eargs]
  generalize c.args.toList.map ρ' = args' at ha
  unfold bltA at h
  split at h
  · rename_i ts tx s x htl
    rw [arr2 htl]
    obtain ⟨y1, y2, rfl, h1, h2⟩ := ha.two
    obtain ⟨v, S', h3, rfl⟩ := outVS_some h
    obtain ⟨r', w', v', g1, g2, g3⟩ := app_sim (P := P) (ty := type) hr h1 h2 h3
    exact out_val g1 g2 g3
  · rename_i ts tx s x htl
    rw [arr2 htl]
    obtain ⟨y1, y2, rfl, h1, h2⟩ := ha.two
    obtain ⟨v, S', h3, rfl⟩ := outVS_some h
    obtain ⟨w', g1, g2, g3⟩ := cpy_sim (P := P) (ty := type) hr h1 h2 h3
    exact out_val g1 g2 (VR.pl g3)
  · rename_i t x htl
    rw [arr1 htl]
    obtain ⟨y1, rfl, h1⟩ := ha.one'
    obtain ⟨S', h3, rfl⟩ := outS_some h
    obtain ⟨w', g1, g2⟩ := clr_sim (P := P) (ty := type) hr h1 h3
    exact out_val g1 g2 (.tuple .nil)
  · rename_i t tk m k htl
    rw [arr2 htl]
    obtain ⟨y1, y2, rfl, h1, h2⟩ := ha.two
    obtain ⟨S', h3, rfl⟩ := outS_some h
    have hk : plain k = true := by
      unfold mdl at h3
      split at h3
      · split at h3
        · cases hp : plain k with
          | true => rfl
          | false => rw [hp] at h3; simp at h3
        · cases h3
      · cases h3
    have := h2.plain_eq hk
    subst this
    obtain ⟨w', g1, g2⟩ := mdl_sim (P := P) (tk := tk) (ty := type) hr h1 h3
    exact out_val g1 g2 (.tuple .nil)
  · rename_i t x htl
    rw [arr1 htl]
    obtain ⟨y1, rfl, h1⟩ := ha.one'
    cases hp : plain x with
    | true => rw [hp] at h; simp at h
    | false =>
      rw [hp] at h
      simp only [cond_false] at h
      split at h
      · rename_i e a n cp hu
        simp only [Option.some.injEq] at h
        subst h
        refine out_val (w' := w) (v' := goInt n) ?_ (Fr.refl hr) (.sc _ rfl)
        cases h1 <;> simp [Builtin.len_, run_und hu]
      · rename_i k e m hu
        split at h
        · rename_i es cl hg
          simp only [Option.some.injEq] at h
          subst h
          obtain ⟨_, es', q1, q2⟩ := hr.objs m _ hg
          refine out_val (w' := w) (v' := goInt es.length) ?_ (Fr.refl hr) (.sc _ rfl)
          cases h1 with
          | sc _ hh => simp [scalar] at hh
          | map _ _ =>
            have := run_getMap (P := P) q1 (fun _ _ _ h => by cases h)
            simp [Builtin.len_, run_und hu, this, q2.length]
        · cases h
      · cases h
  · rename_i t x htl
    rw [arr1 htl]
    obtain ⟨y1, rfl, h1⟩ := ha.one'
    cases hp : plain x with
    | true => rw [hp] at h; simp at h
    | false =>
      rw [hp] at h
      simp only [cond_false] at h
      split at h
      · rename_i e b o l n hu
        cases hb : Nat.beq (b % 2) 0 with
        | false => rw [hb] at h; simp at h
        | true =>
          rw [hb] at h
          simp only [cond_true, Option.some.injEq] at h
          subst h
          have hb := beq0 hb
          refine out_val (w' := w) (v' := goInt n) ?_ (Fr.refl hr) (.sc _ rfl)
          cases h1 with
          | sc _ hh => simp [scalar] at hh
          | slE => simp [Builtin.cap_, run_und hu]
          | slO _ _ _ _ _ _ _ ho => omega
          | slK _ _ _ _ _ _ _ ho => omega
      · cases h
  · cases h
theorem aop_sim {r : Ren} {S : St} {w : World} (hr : Rel r S w) {ρ : Operand → Option Value} {ρ' : Operand → Value} {o : Oper} (hρ : ∀ x ∈ o.op.operands, ∀ v, ρ x = some v → VR r v (ρ' x)) {out : Out} (h : aop P S ρ o = some out) :
    OutR r S w out ((execOp ρ' o).run P w) := by
  have hfb : fbk P S ρ o = some out → OutR r S w out ((execOp ρ' o).run P w) := fbk_sim hr hρ
  obtain ⟨dst, op, type, pos, after, guard⟩ := o
  cases op with
  | move x =>
    obtain ⟨v, hv, rfl⟩ := outV_some h
    exact ⟨r, ρ' x, Fr.refl hr, hρ x (by simp [Op.operands]) v hv, .inl rfl⟩
  | assign x =>
    obtain ⟨v, hv, rfl⟩ := outV_some h
    exact ⟨r, ρ' x, Fr.refl hr, hρ x (by simp [Op.operands]) v hv, .inl rfl⟩
  | pick c a b =>
    simp only [aop] at h
    split at h
    · rename_i t va vb hc ha hb
      simp only [Option.some.injEq] at h
      subst h
      have h1 := (hρ c (by simp [Op.operands]) _ hc).sc_eq rfl
      have h2 := hρ a (by simp [Op.operands]) _ ha
      have h3 := hρ b (by simp [Op.operands]) _ hb
      have : (execOp ρ' ⟨dst, .pick c a b, type, pos, after, guard⟩).run P w = .ok (.value (if t then ρ' a else ρ' b)) w := by simp [execOp, h1, asBool]
      rw [this]
      refine ⟨r, _, Fr.refl hr, ?_, .inl rfl⟩
      cases t <;> simpa
    · cases h
  | alloc e =>
    simp only [aop] at h
    split at h
    · rename_i z hz
      cases hp : plain z with
      | false => rw [hp] at h; simp at h
      | true =>
        rw [hp] at h
        obtain ⟨v, S', h1, rfl⟩ := outVS_some h
        obtain ⟨r', w', x', g1, g2, g3⟩ := alloc_sim (P := P) hr hz hp h1
        exact out_val g1 g2 g3
    · cases h
  | box e x =>
    simp only [aop] at h
    split at h
    · rename_i v hv
      obtain ⟨v2, S', h1, rfl⟩ := outVS_some h
      obtain ⟨r', w', x', g1, g2, g3⟩ := box_sim (P := P) hr (hρ x (by simp [Op.operands]) _ hv) h1
      exact out_val g1 g2 g3
    · cases h
  | build t ps =>
    simp only [aop] at h
    split at h
    · rename_i vs hv
      obtain ⟨v2, h1, rfl⟩ := outV_some h
      have hps := pairs_sim (r := r) (ρ' := ρ') (fun x hx v hv => hρ x (by simpa [Op.operands] using hx) v hv) hv
      obtain ⟨x', g1, g2⟩ := bld_sim (P := P) (ps' := ps.map fun (i, x) => (i, ρ' x)) (by simpa using hps) h1 w
      exact out_val g1 (Fr.refl hr) g2
    · cases h
  | buildSlice t n ps =>
    simp only [aop] at h
    split at h
    · rename_i vs hv
      obtain ⟨v2, S', h1, rfl⟩ := outVS_some h
      have hps := pairs_sim (r := r) (ρ' := ρ') (fun x hx v hv => hρ x (by simpa [Op.operands] using hx) v hv) hv
      obtain ⟨r', w', x', g1, g2, g3⟩ := bldS_sim (P := P) hr (ps' := ps.map fun (i, x) => (i, ρ' x)) (by simpa using hps) h1
      exact out_val g1 g2 g3
    · cases h
  | load t a =>
    simp only [aop] at h
    split at h
    · rename_i v hv
      obtain ⟨v2, h1, rfl⟩ := outV_some h
      obtain ⟨x', g1, g2⟩ := ld_sim (P := P) hr (hρ a (by simp [Op.operands]) _ hv) h1
      exact out_val g1 (Fr.refl hr) g2
    · cases h
  | store t a x =>
    simp only [aop] at h
    split at h
    · rename_i v u hv hu
      obtain ⟨S', h1, rfl⟩ := outS_some h
      obtain ⟨w', g1, g2⟩ := sto_sim (P := P) hr (hρ a (by simp [Op.operands]) _ hv) (hρ x (by simp [Op.operands]) _ hu) h1
      exact out_skip g1 g2
    · cases h
  | nilCheck x =>
    simp only [aop] at h
    split at h
    · rename_i a hv
      simp only [Option.some.injEq] at h
      subst h
      have hx := hρ x (by simp [Op.operands]) _ hv
      have : (execOp ρ' ⟨dst, .nilCheck x, type, pos, after, guard⟩).run P w = .ok (.value (ρ' x)) w := by
        generalize hq : ρ' x = q at hx
        cases hx with
        | sc _ h => simp [scalar] at h
        | ptr => simp [execOp, hq]
      rw [this]
      exact ⟨r, _, Fr.refl hr, hx, .inl rfl⟩
    · rename_i t v hv
      simp only [Option.some.injEq] at h
      subst h
      have hx := hρ x (by simp [Op.operands]) _ hv
      have : (execOp ρ' ⟨dst, .nilCheck x, type, pos, after, guard⟩).run P w = .ok (.value (ρ' x)) w := by
        generalize hq : ρ' x = q at hx
        cases hx with
        | sc _ h => simp [scalar] at h
        | iface => simp [execOp, hq]
      rw [this]
      exact ⟨r, _, Fr.refl hr, hx, .inl rfl⟩
    · rename_i f a c hv
      simp only [Option.some.injEq] at h
      subst h
      have hx := hρ x (by simp [Op.operands]) _ hv
      have : (execOp ρ' ⟨dst, .nilCheck x, type, pos, after, guard⟩).run P w = .ok (.value (ρ' x)) w := by
        generalize hq : ρ' x = q at hx
        cases hx with
        | sc _ h => simp [scalar] at h
        | func => simp [execOp, hq]
      rw [this]
      exact ⟨r, _, Fr.refl hr, hx, .inl rfl⟩
    · cases h
  | binOp bop t x y yt =>
    simp only [aop] at h
    split at h
    · rename_i a b ha hb
      cases hp : (plain a && plain b) with
      | true => rw [hp] at h; exact hfb h
      | false =>
        rw [hp] at h
        obtain ⟨v2, h1, rfl⟩ := outV_some h
        obtain ⟨g1, g2⟩ := eqB_sim (P := P) (hρ x (by simp [Op.operands]) _ ha) (hρ y (by simp [Op.operands]) _ hb) x y h1 w
        exact out_val g1 (Fr.refl hr) (VR.pl g2)
    · cases h
  | convert src d x =>
    simp only [aop] at h
    split at h
    · rename_i v hv
      split at h
      · rename_i v2 S' hc
        simp only [Option.some.injEq] at h
        subst h
        obtain ⟨r', w', x', g1, g2, g3⟩ := cvt_sim (P := P) hr (hρ x (by simp [Op.operands]) _ hv) hc
        exact out_val g1 g2 g3
      · exact hfb h
    · cases h
  | makeInterface t x =>
    simp only [aop] at h
    split at h
    · rename_i v hv
      split at h
      · cases h
      · cases h
      · rename_i d hne hu
        simp only [Option.some.injEq] at h
        subst h
        refine out_val (w' := w) (v' := .iface t (ρ' x)) ?_ (Fr.refl hr) (.iface t (hρ x (by simp [Op.operands]) _ hv))
        cases d <;> first | (simp [Instr.makeInterface, run_und hu]; done) | (exfalso; exact hne _ rfl)
    · cases h
  | makeFunc fn a c =>
    simp only [aop] at h
    split at h
    · rename_i va vc ha hc
      simp only [Option.some.injEq] at h
      subst h
      have h1 := opnds_sim (r := r) (ρ' := ρ') (fun x hx v hv => hρ x (by simp only [Op.operands, Array.mem_append]; exact .inl (by simpa using hx)) v hv) ha
      have h2 := opnds_sim (r := r) (ρ' := ρ') (fun x hx v hv => hρ x (by simp only [Op.operands, Array.mem_append]; exact .inr (by simpa using hx)) v hv) hc
      refine out_val (w' := w) (v' := .func fn ⟨a.toList.map ρ'⟩ ⟨c.toList.map ρ'⟩) ?_ (Fr.refl hr) (.func fn h1 h2)
      have e1 : a.map ρ' = ⟨a.toList.map ρ'⟩ := by apply Array.ext'; simp
      have e2 : c.map ρ' = ⟨c.toList.map ρ'⟩ := by apply Array.ext'; simp
      rw [e1, e2]
      simp [Instr.makeFunc]
    · cases h
  | makeMap t hh =>
    simp only [aop] at h
    split at h
    · rename_i l hl
      obtain ⟨v2, S', h1, rfl⟩ := outVS_some h
      have e : hh.map ρ' = l := by
        cases hh with
        | none => simp only [bnd, Option.some.injEq] at hl; subst hl; rfl
        | some y =>
          unfold bnd at hl
          simp only at hl
          split at hl
          · rename_i v hv
            simp only [Option.some.injEq] at hl
            subst hl
            have := hρ y (by simp [Op.operands]) _ hv
            unfold mkM at h1
            split at h1
            · rename_i q; cases q
            · rename_i k n q
              injection q with q
              subst q
              simp [this.sc_eq rfl]
            · cases h1
          · cases hl
      obtain ⟨r', w', x', g1, g2, g3⟩ := mkM_sim (P := P) hr h1
      rw [← e] at g1
      exact out_val g1 g2 g3
    · cases h
  | makeSlice t l c =>
    simp only [aop] at h
    split at h
    · rename_i a b ha hb
      obtain ⟨v2, S', h1, rfl⟩ := outVS_some h
      have : scalar a = true ∧ scalar b = true := by
        unfold mkS at h1
        split at h1
        · exact ⟨rfl, rfl⟩
        · cases h1
      obtain ⟨r', w', x', g1, g2, g3⟩ := mkS_sim (P := P) hr h1
      rw [← (hρ l (by simp [Op.operands]) _ ha).sc_eq this.1, ← (hρ c (by simp [Op.operands]) _ hb).sc_eq this.2] at g1
      exact out_val g1 g2 g3
    · cases h
  | slice t x lo hi mx =>
    simp only [aop] at h
    split at h
    · rename_i v l hh m hv hl hhh hm
      cases hp : plain v with
      | true => rw [hp] at h; exact hfb h
      | false =>
        rw [hp] at h
        obtain ⟨v2, S', h1, rfl⟩ := outVS_some h
        have hn : ∃ a b c, numO l = some a ∧ numO hh = some b ∧ numO m = some c := by
          unfold slc at h1
          split at h1
          · exact ⟨_, _, _, ‹_›, ‹_›, ‹_›⟩
          · cases h1
        obtain ⟨a, b, c, n1, n2, n3⟩ := hn
        have e1 := bnd_sim (r := r) (ρ' := ρ') (fun y hy v hv => hρ y (by subst hy; simp [Op.operands]) v hv) hl n1
        have e2 := bnd_sim (r := r) (ρ' := ρ') (fun y hy v hv => hρ y (by subst hy; simp [Op.operands]) v hv) hhh n2
        have e3 := bnd_sim (r := r) (ρ' := ρ') (fun y hy v hv => hρ y (by subst hy; simp [Op.operands]) v hv) hm n3
        obtain ⟨rfl, x', g1, g3⟩ := slc_sim (P := P) hr (hρ x (by simp [Op.operands]) _ hv) h1
        rw [← e1, ← e2, ← e3] at g1
        exact out_val g1 (Fr.refl hr) g3
    · cases h
  | fieldAddr s x f =>
    simp only [aop] at h
    split at h
    · rename_i v hv
      obtain ⟨v2, h1, rfl⟩ := outV_some h
      obtain ⟨x', g1, g2⟩ := fla_sim (P := P) (hρ x (by simp [Op.operands]) _ hv) h1 w
      exact out_val g1 (Fr.refl hr) g2
    · cases h
  | field t x f =>
    simp only [aop] at h
    split at h
    · rename_i v hv
      obtain ⟨v2, h1, rfl⟩ := outV_some h
      obtain ⟨x', g1, g2⟩ := fld_sim (P := P) (hρ x (by simp [Op.operands]) _ hv) h1 w
      exact out_val g1 (Fr.refl hr) g2
    · cases h
  | indexAddr t x i =>
    simp only [aop] at h
    split at h
    · rename_i v j hv hj
      cases hp : scalar j with
      | false => rw [hp] at h; simp at h
      | true =>
        rw [hp] at h
        obtain ⟨v2, h1, rfl⟩ := outV_some h
        obtain ⟨x', g1, g2⟩ := ixa_sim (P := P) (hρ x (by simp [Op.operands]) _ hv) h1 w
        rw [← (hρ i (by simp [Op.operands]) _ hj).sc_eq hp] at g1
        exact out_val g1 (Fr.refl hr) g2
    · cases h
  | index t x i =>
    simp only [aop] at h
    split at h
    · rename_i v j hv hj
      cases hpp : (plain v && plain j) with
      | true => rw [hpp] at h; exact hfb h
      | false =>
        rw [hpp] at h
        simp only [cond_false] at h
        cases hp : scalar j with
        | false => rw [hp] at h; simp at h
        | true =>
          rw [hp] at h
          obtain ⟨v2, h1, rfl⟩ := outV_some h
          obtain ⟨x', g1, g2⟩ := idx_sim (P := P) (hρ x (by simp [Op.operands]) _ hv) h1 w
          rw [← (hρ i (by simp [Op.operands]) _ hj).sc_eq hp] at g1
          exact out_val g1 (Fr.refl hr) g2
    · cases h
  | lookup t x k ok =>
    simp only [aop] at h
    split at h
    · rename_i v j hv hj
      obtain ⟨v2, h1, rfl⟩ := outV_some h
      have hp : plain j = true := by
        unfold lkp at h1
        split at h1
        · cases hp : plain j with
          | true => rfl
          | false => rw [hp] at h1; simp at h1
        · cases h1
      obtain ⟨x', g1, g2⟩ := lkp_sim (P := P) hr (hρ x (by simp [Op.operands]) _ hv) h1
      rw [← (hρ k (by simp [Op.operands]) _ hj).plain_eq hp] at g1
      exact out_val g1 (Fr.refl hr) g2
    · cases h
  | mapUpdate t m k x =>
    simp only [aop] at h
    split at h
    · rename_i a b c ha hb hc
      obtain ⟨S', h1, rfl⟩ := outS_some h
      have hp : plain b = true := by
        unfold mup at h1
        split at h1
        · split at h1
          · cases hp : plain b with
            | true => rfl
            | false => rw [hp] at h1; simp at h1
          · cases h1
        · cases h1
      obtain ⟨w', g1, g2⟩ := mup_sim (P := P) hr (hρ m (by simp [Op.operands]) _ ha) (hρ x (by simp [Op.operands]) _ hc) h1
      rw [← (hρ k (by simp [Op.operands]) _ hb).plain_eq hp] at g1
      exact out_skip g1 g2
    · cases h
  | insert t m k x =>
    simp only [aop] at h
    split at h
    · rename_i a b c ha hb hc
      obtain ⟨S', h1, rfl⟩ := outS_some h
      have hp : plain b = true := by
        unfold mup at h1
        split at h1
        · split at h1
          · cases hp : plain b with
            | true => rfl
            | false => rw [hp] at h1; simp at h1
          · cases h1
        · cases h1
      obtain ⟨w', g1, g2⟩ := mup_sim (P := P) hr (hρ m (by simp [Op.operands]) _ ha) (hρ x (by simp [Op.operands]) _ hc) h1
      rw [← (hρ k (by simp [Op.operands]) _ hb).plain_eq hp] at g1
      exact out_skip g1 g2
    · cases h
  | range t x =>
    simp only [aop] at h
    split at h
    · rename_i v hv
      obtain ⟨v2, S', h1, rfl⟩ := outVS_some h
      obtain ⟨r', w', x', g1, g2, g3⟩ := rng_sim (P := P) hr (hρ x (by simp [Op.operands]) _ hv) h1
      exact out_val g1 g2 g3
    · cases h
  | next it str =>
    simp only [aop] at h
    split at h
    · rename_i v hv
      obtain ⟨v2, S', h1, rfl⟩ := outVS_some h
      obtain ⟨w', x', g1, g2, g3⟩ := nxt_sim (P := P) hr type (hρ it (by simp [Op.operands]) _ hv) h1
      exact out_val g1 g2 g3
    · cases h
  | extract t i =>
    simp only [aop] at h
    split at h
    · rename_i vs hv
      obtain ⟨v2, h1, rfl⟩ := outV_some h
      have hx := hρ t (by simp [Op.operands]) _ hv
      generalize hq : ρ' t = q at hx
      cases hx with
      | sc _ h => simp [scalar] at h
      | tuple hs =>
        rename_i xs xs'
        obtain ⟨x', e1, e2⟩ := hs.get (j := i) (v := v2) (by simpa using h1)
        refine out_val (w' := w) (v' := x') ?_ (Fr.refl hr) e2
        rw [hq]
        simp [Instr.extract, e1]
    · cases h
  | call c =>
    simp only [aop] at h
    split at h
    · rename_i args hargs
      have ha := opnds_sim (r := r) (ρ' := ρ') (fun x hx v hv => hρ x (by simp only [Op.operands, Call.operands, Array.mem_append]; exact .inr (by simpa using hx)) v hv) hargs
      have eargs : c.args.map ρ' = ⟨c.args.toList.map ρ'⟩ := by apply Array.ext'; simp
      split at h
      · rename_i f hcal
        split at h
        · rename_i g first captured hv
          have hx := hρ f (by simp [Op.operands, Call.operands, hcal]) _ hv
          generalize hq : ρ' f = q at hx
          cases hx with
          | sc _ h => simp [scalar] at h
          | func _ h1 h2 =>
            rename_i a1 a2 b1 b2
            have := callA_sim (P := P) hr ((h1.append ha).append h2) h
            have e : (execOp ρ' ⟨dst, .call c, type, pos, after, guard⟩).run P w = (callFunc g ⟨a2 ++ c.args.toList.map ρ' ++ b2⟩).run P w := by
              simp [execOp, resolve, hcal, hq, Deferred.ofValue, invoke]
              congr 2
              apply Array.ext'
              simp
            rw [e]
            exact this
        · cases h
      · rename_i recv name hcal
        split at h
        · rename_i t v hv
          split at h
          · rename_i g x hm
            have hx := hρ recv (by simp [Op.operands, Call.operands, hcal]) _ hv
            generalize hq : ρ' recv = q at hx
            cases hx with
            | sc _ h => simp [scalar] at h
            | iface _ hvv =>
              rename_i v'
              obtain ⟨x', m1, m2⟩ := mth_sim (P := P) hr hvv hm (P.types.size + Made.depth - 1)
              have hd : P.types.size + Made.depth - 1 + 1 = P.types.size + Made.depth := by
                have : 0 < Made.depth := by decide
                omega
              rw [hd] at m1
              have := callA_sim (P := P) hr (.cons m2 ha) h
              have e : (execOp ρ' ⟨dst, .call c, type, pos, after, guard⟩).run P w = (callFunc g ⟨x' :: c.args.toList.map ρ'⟩).run P w := by
                have q0 : (#[Value.iface t v'] ++ c.args.map ρ')[0]? = some (Value.iface t v') := by
                  rw [Array.getElem?_append_left (by simp)]; rfl
                have q1 : (#[x'] ++ (c.args.map ρ').extract 0 c.args.size) = ⟨x' :: c.args.toList.map ρ'⟩ := by
                  apply Array.ext'; simp [List.take_of_length_le]
                simp [execOp, resolve, hcal, hq, invoke, callMethod, q0, m1, q1]
              rw [e]
              exact this
          · cases h
        · cases h
      · rename_i b hcal
        have eop : execOp ρ' ⟨dst, .call c, type, pos, after, guard⟩ = Go.builtin b c.argTypes type (c.args.map fun | .const _ => true | _ => false) (c.args.map ρ') := by
          simp only [execOp, resolve, hcal]
          rfl
        split at h
        · rename_i out' hbl
          simp only [Option.some.injEq] at h
          subst h
          rw [eop]
          exact builtin_sim (P := P) hr ha hbl _
        · exact hfb h
    · cases h
  | _ => exact hfb h
end
end Go.Proofs.YtigkndbkaagboaaGreatDoor.Ev
end
section
namespace Go.Proofs.YtigkndbkaagboaaGreatDoor.Ev
open Go hiding Obj
set_option linter.unusedVariables false
set_option linter.unusedSimpArgs false
set_option linter.unusedSectionVars false
variable [Gl]
/-- The slots of a call, so many. -/
structure Env where
  t : Tr Value
  sz : Nat
noncomputable def Env.at (env : Env) (t : Nat) : Option Value := @Env.rec (fun _ => Nat → Option Value) (fun tr _ t => Tr.get tr t) env t
noncomputable def Env.up (env : Env) (d : Option Tmp) (v : Value) : Env := match d with | some t => ⟨bif Nat.blt t env.sz then Tr.ins env.t t v else Tr.nil, env.sz⟩ | none => env
noncomputable def opd (env : Env) : Operand → Option Value
  | .tmp t => env.at t
  | .const v => bif plain v then some v else none
  | .global _ => none
  | .func f => some (.func (.func f) #[] #[])
/-- Is an operation wanted? -/
noncomputable def want (ops : Array Oper) (env : Env) (o : Oper) : Option Bool :=
  match o.guard with
  | none => some true
  | some (j, w) =>
    match (ops[j]?).bind (·.dst) with
    | some d => match env.at d with
      | some (.bool b) => some (b == w)
      | some _ => some false
      | none => none
    | none => some false
abbrev CallF := FuncId → List Value → St → Option (Value × St)
noncomputable def stepOp (P : Program) (call : CallF) (ops : Array Oper) (env : Env) (S : St) (o : Oper) : Option (Value × St) :=
  match want ops env o with
  | some true =>
    match aop P S (opd env) o with
    | some (.val v S') => some (v, S')
    | some (.call f args) => call f args S
    | none => none
  | some false => some (undef, S)
  | none => none
noncomputable def evOps (P : Program) (call : CallF) (ops : Array Oper) : List Oper → Env → St → Option (Env × St)
  | [], env, S => some (env, S)
  | o :: os, env, S =>
    match stepOp P call ops env S o with
    | some (v, S') => evOps P call ops os (env.up o.dst v) S'
    | none => none
/-- Operations that leave the memory as it is (if they make no new number). -/
def isQ : Op → Bool
  | .move _ | .assign _ | .pick .. | .build .. | .load .. | .nilCheck _ | .binOp .. | .unOp .. | .convert .. | .makeInterface .. | .makeFunc .. | .slice .. | .fieldAddr .. | .field .. | .indexAddr .. | .index .. | .lookup .. | .extract .. => true
  | .call { callee := .builtin .len, .. } | .call { callee := .builtin .cap, .. } | .call { callee := .builtin .min, .. } | .call { callee := .builtin .max, .. } => true
  | _ => false
/-- .. and do not look at it. -/
def isN : Op → Bool
  | .move _ | .assign _ | .pick .. | .build .. | .nilCheck _ | .binOp .. | .unOp .. | .makeInterface .. | .makeFunc .. | .fieldAddr .. | .field .. | .indexAddr .. | .index .. | .extract .. => true
  | _ => false
def isF (o : Oper) : Bool := match o.op, o.guard with
  | .alloc _, none => true
  | _, _ => false
def bit (b : List Nat) (i j : Nat) : Bool := (b.getD i 0).testBit j
def reads (ops : Array Oper) (o : Oper) : List Tmp := Oper.looksAt ops o
structure TE where
  i : Nat
  env : Env
  S : St
  v : Value
  S' : St
  k : Nat
def isSeq (ops : Array Oper) (i : Nat) : Bool := match ops[i]? with | some o => !isQ o.op | none => false
noncomputable def runT (P : Program) (call : CallF) (ops : Array Oper) : List Nat → Nat → Env → St → Option (List TE × Env × St)
  | [], _, env, S => some ([], env, S)
  | i :: is, k, env, S =>
    match ops[i]? with
    | some o =>
      match stepOp P call ops env S o with
      | some (v, S') =>
        bif isQ o.op && !(Nat.beq S'.next S.next) then none else
        match runT P call ops is (bif isQ o.op then k else k + 1) (env.up o.dst v) S' with
        | some (T, e, s) => some (⟨i, env, S, v, S', k⟩ :: T, e, s)
        | none => none
      | none => none
    | none => none
def seqOf (ops : Array Oper) (ord : List Nat) : List Nat := ord.filter (isSeq ops)
def posOf (ord : List Nat) (i : Nat) : Nat := ord.idxOf i
def nodupB (ord : List Nat) : Bool := ord.zipIdx.all fun (i, k) => Nat.beq (posOf ord i) k
def planOk (ops : Array Oper) (b ord : List Nat) : Bool :=
  let n := ops.size
  let idx := List.range n
  let sq := seqOf ops ord
  Nat.beq ord.length n && idx.all (ord.contains ·) && ord.all (fun i => Nat.blt i n) && nodupB ord &&
  idx.all (fun i =>
    match ops[i]? with
    | none => false
    | some o =>
      o.after.all (fun e => !(Region.binds .any e) || (Nat.blt e.on n && Nat.blt (posOf ord e.on) (posOf ord i))) &&
      idx.all (fun j =>
        match ops[j]? with
        | none => false
        | some p =>
          (!(bit b i j) || (o.after.any (fun e => Region.binds .any e && (Nat.beq e.on j || bit b e.on j)) && Nat.blt (posOf ord j) (posOf ord i))) &&
          (Nat.beq i j || (match o.dst, p.dst with | some d, some e => !(Nat.beq d e) | _, _ => true)) &&
          (match p.dst with | some d => !((reads ops o).contains d) || Nat.beq i j || bit b i j || bit b j i | none => true)) &&
      (isQ o.op || isF o || sq.all (fun s => !(Nat.blt (posOf ord s) (posOf ord i)) || bit b i s)) &&
      sq.all (fun s => !(bit b i s) || sq.all (fun s' => !(Nat.blt (posOf ord s') (posOf ord s)) || bit b i s'))) &&
  Nat.ble (sq.filter (fun i => match ops[i]? with | some o => isF o | none => false)).length 1
def veqS : Value → Value → Bool
  | .bool a, .bool b => a == b
  | .int k a, .int l b => decide (k = l) && decide (a = b)
  | .string a, .string b => decide (a.data.toList = b.data.toList)
  | .pointer none, .pointer none => true
  | .pointer (some ⟨b, o, none⟩), .pointer (some ⟨b', o', none⟩) => Nat.beq b b' && Nat.beq o o'
  | .slice none l c, .slice none l' c' => Nat.beq l l' && Nat.beq c c'
  | .slice (some ⟨b, o, none⟩) l c, .slice (some ⟨b', o', none⟩) l' c' => Nat.beq b b' && Nat.beq o o' && Nat.beq l l' && Nat.beq c c'
  | .map none, .map none => true
  | .map (some a), .map (some b) => Nat.beq a b
  | .nilFunc, .nilFunc => true
  | .nilIface, .nilIface => true
  | _, _ => false
def veqL : List Value → List Value → Bool
  | [], [] => true
  | a :: x, b :: y => veqS a b && veqL x y
  | _, _ => false
def veq : Value → Value → Bool
  | .agg a, .agg b => veqL a.toList b.toList
  | .tuple a, .tuple b => veqL a.toList b.toList
  | .iface t a, .iface u b => Nat.beq t u && veqS a b
  | a, b => veqS a b
theorem veqS_eq : ∀ {a b : Value}, veqS a b = true → a = b := by
  intro a b h
  unfold veqS at h
  split at h <;> simp_all
  · rename_i x y
    obtain ⟨x⟩ := x
    obtain ⟨y⟩ := y
    have : x = y := h
    subst this; rfl
theorem veqL_eq : ∀ {a b : List Value}, veqL a b = true → a = b
  | [], [], _ => rfl
  | a :: x, b :: y, h => by
    simp only [veqL, Bool.and_eq_true] at h
    rw [veqS_eq h.1, veqL_eq h.2]
  | [], _ :: _, h => by simp [veqL] at h
  | _ :: _, [], h => by simp [veqL] at h
theorem veq_eq {a b : Value} (h : veq a b = true) : a = b := by
  unfold veq at h
  split at h
  · rw [Array.ext' (veqL_eq h)]
  · rw [Array.ext' (veqL_eq h)]
  · simp only [Bool.and_eq_true] at h
    rw [beq0 h.1, veqS_eq h.2]
  · exact veqS_eq h
/-- May 'q' be done when the first 'p' of the others are? -/
def mayBe (b sq : List Nat) (q p : Nat) : Bool := sq.zipIdx.all fun (s, j) => bif Nat.blt j p then !(bit b s q) else !(bit b q s)
noncomputable def recheck (P : Program) (call : CallF) (ops : Array Oper) (b sq : List Nat) (stg : List St) (t : TE) : Bool :=
  match ops[t.i]? with
  | some o =>
    !(isQ o.op) || isN o.op || stg.zipIdx.all fun (Sp, p) => Nat.beq p t.k || !(mayBe b sq t.i p) ||
      (match stepOp P call ops t.env Sp o with
      | some (v, S') => veq v t.v && Nat.beq S'.next Sp.next
      | none => false)
  | none => false
noncomputable def stages (ops : Array Oper) (S0 : St) (T : List TE) : List St := S0 :: (T.filter fun t => isSeq ops t.i).map (·.S')
/-- The masks of what must be done ahead. -/
def masks (ops : Array Oper) : List Nat := (Region.before ops).toList
/-- The order: as it stands, but new variables as late as may be. -/
def sink (ops : Array Oper) (b : List Nat) (fs : List Nat) : List Nat → List Nat
  | [] => fs
  | i :: is =>
    match ops[i]? with
    | some o => bif isF o then sink ops b (fs ++ [i]) is else bif fs.any (fun f => bit b i f) then fs ++ (i :: sink ops b [] is) else i :: sink ops b fs is
    | none => i :: sink ops b fs is
def ordOf (ops : Array Oper) : List Nat := sink ops (masks ops) [] (List.range ops.size)
noncomputable def evDraw (P : Program) (call : CallF) (ops : Array Oper) (env : Env) (S : St) : Option (Env × St) :=
  bif planOk ops (masks ops) (ordOf ops) then
    match runT P call ops (ordOf ops) 0 env S with
    | some (T, e, s) => bif T.all (recheck P call ops (masks ops) (seqOf ops (ordOf ops)) (stages ops S T)) then some (e, s) else none
    | none => none
  else none
inductive Ex where
  | normal
  | exit (id : Nat)
  | goto (l : Nat)
  | ret
noncomputable def envOf : List Value → Nat → Tr Value
  | [], _ => Tr.nil
  | v :: vs, i => Tr.ins (envOf vs (i + 1)) i v
noncomputable def resV (P : Program) (S : St) (env : Env) : List ResultVar → Option (List Value)
  | [] => some []
  | .tmp t :: rs => match env.at t, resV P S env rs with | some v, some vs => some (v :: vs) | _, _ => none
  | .cell a t :: rs => match env.at a with
    | some x => match ld P S t x, resV P S env rs with | some v, some vs => some (v :: vs) | _, _ => none
    | none => none
abbrev Prims := FuncId → Option (List Value → St → Option (Value × St))
noncomputable def callE (P : Program) (pr : Prims) (ih : Code → Env → St → Option (Ex × Env × St)) : CallF := fun f args S =>
  match pr f with
  | some g => g args S
  | none =>
    match P.funcs[f]? with
    | some fn =>
      match fn.body with
      | some c =>
        match ih c ⟨envOf args 0, args.length + (fn.ntmps - args.length)⟩ S with
        | some (.normal, env, S') | some (.ret, env, S') => match resV P S' env fn.results.toList with
          | some [v] => some (v, S')
          | some vs => some (.tuple ⟨vs⟩, S')
          | none => none
        | _ => none
      | none => none
    | none => none
noncomputable def evStep (P : Program) (pr : Prims) (ih : Code → Env → St → Option (Ex × Env × St)) (c : Code) (env : Env) (S : St) : Option (Ex × Env × St) :=
  match c with
  | .skip | .label _ => some (.normal, env, S)
  | .region _ ops draw => bif draw then (match evDraw P (callE P pr ih) ops env S with | some (e, s) => some (.normal, e, s) | none => none)
    else (match evOps P (callE P pr ih) ops ops.toList env S with | some (e, s) => some (.normal, e, s) | none => none)
  | .seq a b => match ih a env S with
    | some (.normal, e, s) => ih b e s
    | r => r
  | .cond x a b => match opd env x with
    | some (.bool true) => ih a env S
    | some (.bool false) => ih b env S
    | _ => none
  | .block id a => match ih a env S with
    | some (.exit i, e, s) => bif Nat.beq i id then some (.normal, e, s) else some (.exit i, e, s)
    | r => r
  | .loop a => match ih a env S with
    | some (.normal, e, s) => ih (.loop a) e s
    | r => r
  | .exit id => some (.exit id, env, S)
  | .goto l => some (.goto l, env, S)
  | .ret => some (.ret, env, S)
  | _ => none
noncomputable def ev (P : Program) (pr : Prims) (n : Nat) : Code → Env → St → Option (Ex × Env × St) := Nat.rec (fun _ _ _ => none) (fun _ ih => evStep P pr ih) n
end Go.Proofs.YtigkndbkaagboaaGreatDoor.Ev
end
section
namespace Go.Proofs.YtigkndbkaagboaaGreatDoor.Ev
open Go hiding Obj
set_option linter.unusedVariables false
set_option linter.unusedSimpArgs false
set_option linter.unusedSectionVars false
variable [Gl]
section
variable {P : Program}
/-- The slots' values stand for those of the frame. -/
structure EnvR (r : Ren) (env : Env) (tmps : Array Value) : Prop where
  sz : env.sz = tmps.size
  at_ : ∀ t v, env.at t = some v → ∃ v', tmps[t]? = some v' ∧ VR r v v'
theorem EnvR.mono {r s : Ren} {env : Env} {tmps : Array Value} (h : EnvR r env tmps) (hl : r.le s) : EnvR s env tmps :=
  ⟨h.sz, fun t v hv => let ⟨v', h1, h2⟩ := h.at_ t v hv; ⟨v', h1, h2.mono hl⟩⟩
theorem Env.at_up {env : Env} {d : Option Tmp} {v x : Value} {t : Nat} (h : (env.up d v).at t = some x) : (d = some t ∧ x = v ∧ t < env.sz) ∨ (d ≠ some t ∧ env.at t = some x) := by
  cases d with
  | none => exact .inr ⟨by simp, h⟩
  | some k =>
    simp only [Env.up, Env.at] at h
    cases hb : Nat.blt k env.sz with
    | false =>
      rw [hb] at h
      simp only [cond_false, Tr.get_nil] at h
      cases h
    | true =>
      rw [hb] at h
      simp only [cond_true] at h
      rcases Tr.get_ins h with ⟨rfl, rfl⟩ | ⟨hne, h⟩
      · exact .inl ⟨rfl, rfl, by simpa [Nat.blt_eq] using hb⟩
      · exact .inr ⟨by simp; exact fun e => hne e.symm, h⟩
theorem Env.sz_up (env : Env) (d : Option Tmp) (v : Value) : (env.up d v).sz = env.sz := by cases d <;> rfl
theorem put_size (a : Act) (d : Option Tmp) (v : Value) : (a.put d v).tmps.size = a.tmps.size := by cases d <;> simp [Act.put]
theorem put_get (a : Act) (d : Option Tmp) (v : Value) {t : Nat} (ht : t < a.tmps.size) : (d = some t → (a.put d v).tmps[t]? = some v) ∧ (d ≠ some t → (a.put d v).tmps[t]? = a.tmps[t]?) := by
  cases d with
  | none => exact ⟨fun h => by simp at h, fun _ => rfl⟩
  | some k =>
    refine ⟨fun h => ?_, fun h => ?_⟩
    · injection h with h; subst h
      simp [Act.put, ht]
    · have : k ≠ t := fun e => h (by rw [e])
      simp [Act.put, Array.getElem?_setIfInBounds_ne this]
theorem EnvR.up {r : Ren} {env : Env} {a : Act} (h : EnvR r env a.tmps) (d : Option Tmp) {v v' : Value} (hv : VR r v v') : EnvR r (env.up d v) (a.put d v').tmps := by
  refine ⟨by rw [Env.sz_up, put_size]; exact h.sz, fun t x hx => ?_⟩
  rcases Env.at_up hx with ⟨hd, rfl, hlt⟩ | ⟨hd, hx⟩
  · exact ⟨v', (put_get a d v' (by rw [← h.sz]; exact hlt)).1 hd, hv⟩
  · obtain ⟨x', h1, h2⟩ := h.at_ t x hx
    exact ⟨x', by rw [(put_get a d v' (Array.getElem?_eq_some_iff.1 h1).1).2 hd]; exact h1, h2⟩
/-- What is known of calls. -/
noncomputable def CallOk (P : Program) (call : CallF) : Prop := ∀ f args S v S', call f args S = some (v, S') → ∀ r w args', Rel r S w → VRs r args args' →
  Calls P f ⟨args'⟩ w fun e w' => ∃ r' v', e = .returned v' ∧ Fr r S w r' S' w' ∧ VR r' v v'
theorem opd_sim {r : Ren} {env : Env} {a : Act} {x : Operand} (h : ∀ t, x = .tmp t → ∀ v, env.at t = some v → ∃ v', a.tmps[t]? = some v' ∧ VR r v v') {v : Value} (hv : opd env x = some v) : VR r v (a.eval x) := by
  cases x with
  | tmp t =>
    obtain ⟨v', h1, h2⟩ := h t rfl v hv
    simp only [Act.eval, Array.getD_eq_getD_getElem?, h1, Option.getD_some]
    exact h2
  | const c =>
    simp only [opd] at hv
    cases hp : plain c with
    | false => rw [hp] at hv; simp at hv
    | true => rw [hp] at hv; simp only [cond_true, Option.some.injEq] at hv; subst hv; exact VR.pl hp
  | global g => simp [opd] at hv
  | func f =>
    simp only [opd, Option.some.injEq] at hv
    subst hv
    exact .func _ .nil .nil
theorem want_sim {r : Ren} {env : Env} {a : Act} {ops : Array Oper} {o : Oper} (h : ∀ j w d, o.guard = some (j, w) → (ops[j]?).bind (·.dst) = some d → ∀ v, env.at d = some v → ∃ v', a.tmps[d]? = some v' ∧ VR r v v') {t : Bool}
    (hw : want ops env o = some t) : Region.wanted o (yielded ops a.tmps) = t := by
  unfold want at hw
  unfold Region.wanted
  cases hg : o.guard with
  | none => rw [hg] at hw; simp only [Option.some.injEq] at hw; exact hw
  | some jw =>
    obtain ⟨j, w⟩ := jw
    rw [hg] at hw
    simp only at hw ⊢
    unfold yielded
    cases hd : (ops[j]?).bind (·.dst) with
    | none => rw [hd] at hw; simp only [Option.some.injEq] at hw; subst hw; simp
    | some d =>
      rw [hd] at hw
      simp only at hw
      cases he : env.at d with
      | none => rw [he] at hw; simp at hw
      | some v =>
        obtain ⟨v', h1, h2⟩ := h j w d hg hd v he
        rw [he] at hw
        simp only [Option.bind_some, h1]
        cases h2 with
        | sc v hs =>
          cases v with
          | bool b => simp only [Option.some.injEq] at hw ⊢; subst hw; simp
          | _ => simp only [Option.some.injEq] at hw ⊢; subst hw; simp
        | _ => simp only [Option.some.injEq] at hw ⊢; subst hw; simp
/-- One operation. -/
theorem step_wp {call : CallF} (hcall : CallOk P call) {ops : Array Oper} {env : Env} {S S' : St} {o : Oper} {v : Value} (hs : stepOp P call ops env S o = some (v, S')) {r : Ren} {a : Act} {w : World} (hr : Rel r S w)
    (hρ : ∀ t, t ∈ reads ops o → ∀ v, env.at t = some v → ∃ v', a.tmps[t]? = some v' ∧ VR r v v') {K : Act → World → Prop} {Q : Exit → Act → World → Prop}
    (hK : ∀ r' v' w', Fr r S w r' S' w' → VR r' v v' → K (a.put o.dst v') w') :
    if Region.wanted o (yielded ops a.tmps) then o.wp P a w K Q ∨ (o.asks P a w ∧ LetsOut Q) else K (a.put o.dst undef) w := by
  have hops : ∀ x ∈ o.op.operands, ∀ v, opd env x = some v → VR r v (a.eval x) := fun x hx v hv => by
    refine opd_sim (fun t e u hu => ?_) hv
    subst e
    refine hρ t ?_ u hu
    unfold reads Oper.looksAt
    refine List.mem_append.2 (.inl ?_)
    rw [List.mem_filterMap]
    exact ⟨.tmp t, by simpa using hx, rfl⟩
  have hg : ∀ j w d, o.guard = some (j, w) → (ops[j]?).bind (·.dst) = some d → ∀ v, env.at d = some v → ∃ v', a.tmps[d]? = some v' ∧ VR r v v' := fun j w d hg hd v hv => by
    refine hρ d ?_ v hv
    unfold reads Oper.looksAt
    refine List.mem_append.2 (.inr ?_)
    rw [hg]
    simp [hd]
  unfold stepOp at hs
  cases hw : want ops env o with
  | none => rw [hw] at hs; simp at hs
  | some t =>
    rw [hw] at hs
    rw [want_sim hg hw]
    cases t with
    | false =>
      simp only [Option.some.injEq, Prod.mk.injEq] at hs
      obtain ⟨rfl, rfl⟩ := hs
      simp only [Bool.false_eq_true, if_false]
      exact hK r undef w (Fr.refl hr) (.tuple .nil)
    | true =>
      simp only [if_true]
      left
      simp only at hs
      cases ha : aop P S (opd env) o with
      | none => rw [ha] at hs; simp at hs
      | some out =>
        rw [ha] at hs
        have hsim := aop_sim (P := P) hr hops ha
        unfold Oper.wp
        cases out with
        | val v2 S2 =>
          simp only [Option.some.injEq, Prod.mk.injEq] at hs
          obtain ⟨rfl, rfl⟩ := hs
          cases hrun : (execOp a.eval o).run P w with
          | halt h w' => rw [hrun] at hsim; exact hsim.elim
          | ok nx w' =>
            rw [hrun] at hsim
            obtain ⟨r', v', h1, h2, h3⟩ := hsim
            rcases h3 with rfl | ⟨rfl, rfl⟩
            · exact hK r' v' w' h1 h2
            · exact hK r' undef w' h1 h2
        | call f args =>
          simp only at hs
          cases hrun : (execOp a.eval o).run P w with
          | halt h w' => rw [hrun] at hsim; exact hsim.elim
          | ok nx w' =>
            rw [hrun] at hsim
            obtain ⟨rfl, args', rfl, h2⟩ := hsim
            simp only [Oper.upon]
            refine (hcall f args S v S' hs r w' args' hr h2).mono ?_
            rintro e w'' ⟨r', v', rfl, g1, g2⟩
            exact hK r' v' w'' g1 g2
/-- A region without a draw. -/
theorem evOps_wp {call : CallF} (hcall : CallOk P call) {ops : Array Oper} {Q : Exit → Act → World → Prop} : ∀ (l : List Oper) (k : Nat), ops.toList.drop k = l → ∀ {env env' : Env} {S S' : St}, evOps P call ops l env S = some (env', S') →
    ∀ {r : Ren} {a : Act} {w : World}, Rel r S w → EnvR r env a.tmps → (∀ r' a' w', Fr r S w r' S' w' → EnvR r' env' a'.tmps → a'.defers = a.defers → Q .normal a' w') → wpOps P ops Q ((List.range ops.size).drop k) a w
  | [], k, hl, env, env', S, S', he, r, a, w, hr, henv, hQ => by
    simp only [evOps, Option.some.injEq, Prod.mk.injEq] at he
    obtain ⟨rfl, rfl⟩ := he
    have hk : ops.size ≤ k := by
      have := congrArg List.length hl
      simp at this; omega
    rw [List.drop_of_length_le (by simpa using hk)]
    exact hQ r a w (Fr.refl hr) henv rfl
  | o :: l, k, hl, env, env', S, S', he, r, a, w, hr, henv, hQ => by
    have hk : k < ops.size := by
      have := congrArg List.length hl
      simp at this; omega
    have ho : ops[k]? = some o := by
      have : (ops.toList.drop k)[0]? = some o := by rw [hl]; rfl
      simpa using this
    have hl' : ops.toList.drop (k + 1) = l := by
      rw [← List.tail_drop, hl]; rfl
    have hd : (List.range ops.size).drop k = k :: (List.range ops.size).drop (k + 1) := by
      rw [List.drop_eq_getElem_cons (by simpa using hk)]; simp
    rw [hd]
    unfold evOps at he
    cases hs : stepOp P call ops env S o with
    | none => rw [hs] at he; simp at he
    | some vs =>
      obtain ⟨v, S1⟩ := vs
      rw [hs] at he
      simp only at he
      simp only [wpOps, ho]
      refine step_wp hcall hs hr (fun t _ v hv => henv.at_ t v hv) fun r' v' w' h1 h2 => ?_
      refine evOps_wp hcall l (k + 1) hl' he h1.rel ((henv.mono h1.le).up o.dst h2) fun r'' a'' w'' g1 g2 g3 => hQ r'' a'' w'' (h1.trans g1) g2 (g3.trans (by cases o.dst <;> rfl))
end
end Go.Proofs.YtigkndbkaagboaaGreatDoor.Ev
end
section
namespace Go.Proofs.YtigkndbkaagboaaGreatDoor.Ev
open Go hiding Obj
set_option linter.unusedVariables false
set_option linter.unusedSimpArgs false
set_option linter.unusedSectionVars false
variable [Gl]
section
variable {P : Program}
/-- An operation that leaves the memory. -/
theorem slc_S {S S' : St} {t : TypeId} {x v : Value} {lo hi mx : Option Value} (h : slc P S t x lo hi mx = some (v, S')) : S' = S := by
  unfold slc at h
  split at h
  · split at h
    · split at h
      · unfold slcE at h
        simp only at h
        generalize (Nat.beq _ _ && _ && _ && _ && _) = c at h
        cases c with
        | false => simp at h
        | true => simp only [cond_true, Option.some.injEq, Prod.mk.injEq] at h; exact h.2.symm
      · cases h
    · rename_i e b o len cap hu
      split at h
      · cases hb : Nat.beq (b % 2) 0 with
        | true =>
          rw [hb] at h
          simp only [cond_true] at h
          unfold slcE at h
          simp only at h
          generalize (Nat.beq _ _ && _ && _ && _ && _) = c at h
          cases c with
          | false => simp at h
          | true => simp only [cond_true, Option.some.injEq, Prod.mk.injEq] at h; exact h.2.symm
        | false =>
          rw [hb] at h
          simp only [cond_false] at h
          cases hk : Nat.blt cap KB with
          | false => rw [hk] at h; simp at h
          | true =>
            rw [hk] at h
            simp only [cond_true] at h
            unfold slcO at h
            simp only at h
            split at h
            · generalize (Nat.beq _ _ && _ && _ && _ && _ && _) = c at h
              cases c with
              | false => simp at h
              | true =>
                simp only [cond_true] at h
                split at h
                · simp only [Option.some.injEq, Prod.mk.injEq] at h; exact h.2.symm
                · generalize (Nat.ble _ _ && _ && _) = c at h
                  cases c with
                  | false => simp at h
                  | true => simp only [cond_true, Option.some.injEq, Prod.mk.injEq] at h; exact h.2.symm
            · generalize (Nat.beq _ _ && _ && _ && _ && _) = c at h
              cases c with
              | false => simp at h
              | true => simp only [cond_true, Option.some.injEq, Prod.mk.injEq] at h; exact h.2.symm
      · cases h
    · cases h
  · cases h
theorem fbk_S {S : St} {ρ : Operand → Option Value} {o : Oper} {out : Out} (h : fbk P S ρ o = some out) : ∃ v, out = .val v S ∧ ∀ S2, fbk P S2 ρ o = some (.val v S2) := by
  unfold fbk at h ⊢
  cases hc : (plainAll ρ o.op.operands.toList && !isSelect o.op) with
  | false => rw [hc] at h; simp at h
  | true =>
    rw [hc] at h
    simp only [cond_true] at h
    split at h
    · rename_i v hp
      cases hpl : plain v with
      | false => rw [hpl] at h; simp at h
      | true =>
        rw [hpl] at h
        simp only [cond_true, Option.some.injEq] at h
        subst h
        exact ⟨v, rfl, fun S2 => by simp [hp, hpl]⟩
    · cases h
theorem cvt_S {S S' : St} {src dst : TypeId} {x v : Value} (h : cvt P S src dst x = some (v, S')) : S' = S ∨ S'.next = S.next + 2 := by
  unfold cvt at h
  split at h
  · split at h
    · simp only [Option.some.injEq, Prod.mk.injEq] at h
      right; rw [← h.2]; rfl
    · cases h
  · rename_i e b o n cap hs hd
    split at h
    · cases hn : Nat.beq n 0 with
      | true => rw [hn] at h; simp only [cond_true, Option.some.injEq, Prod.mk.injEq] at h; exact .inl h.2.symm
      | false =>
        rw [hn] at h
        simp only [cond_false] at h
        split at h
        · rename_i c _ _ _
          generalize Nat.beq _ n = q at h
          cases q with
          | false => simp at h
          | true =>
            simp only [cond_true] at h
            split at h
            · simp only [Option.some.injEq, Prod.mk.injEq] at h; exact .inl h.2.symm
            · cases h
        · cases h
    · cases h
  · split at h
    · cases hc : (Nat.beq src dst && Nat.beq (_ % 2) 0) with
      | false => rw [hc] at h; cases h
      | true =>
        rw [hc] at h
        simp only [cond_true] at h
        split at h
        · simp only [Option.some.injEq, Prod.mk.injEq] at h; exact .inl h.2.symm
        · cases h
    · cases h
  · cases h
theorem bltA_S {S S' : St} {b : Builtin} {ts : List TypeId} {args : List Value} {v : Value} (hb : b = .len ∨ b = .cap ∨ b = .min ∨ b = .max) (h : bltA P S b ts args = some (.val v S')) : S' = S := by
  unfold bltA at h
  split at h
  · rcases hb with h | h | h | h <;> cases h
  · rcases hb with h | h | h | h <;> cases h
  · rcases hb with h | h | h | h <;> cases h
  · rcases hb with h | h | h | h <;> cases h
  · rename_i t x
    cases hp : plain x with
    | true => rw [hp] at h; simp at h
    | false =>
      rw [hp] at h
      simp only [cond_false] at h
      split at h
      · simp only [Option.some.injEq, Out.val.injEq] at h; exact h.2.symm
      · split at h
        · simp only [Option.some.injEq, Out.val.injEq] at h; exact h.2.symm
        · cases h
      · cases h
  · rename_i t x
    cases hp : plain x with
    | true => rw [hp] at h; simp at h
    | false =>
      rw [hp] at h
      simp only [cond_false] at h
      split at h
      · generalize Nat.beq _ 0 = q at h
        cases q with
        | false => simp at h
        | true => simp only [cond_true, Option.some.injEq, Out.val.injEq] at h; exact h.2.symm
      · cases h
  · cases h
theorem bltA_call {S : St} {b : Builtin} {ts : List TypeId} {args : List Value} {f : FuncId} {as : List Value} (h : bltA P S b ts args = some (.call f as)) : False := by
  unfold bltA at h
  split at h
  · obtain ⟨_, _, _, h⟩ := outVS_some h; cases h
  · obtain ⟨_, _, _, h⟩ := outVS_some h; cases h
  · obtain ⟨_, _, h⟩ := outS_some h; cases h
  · obtain ⟨_, _, h⟩ := outS_some h; cases h
  · rename_i t x
    cases hp : plain x with
    | true => rw [hp] at h; simp at h
    | false =>
      rw [hp] at h
      simp only [cond_false] at h
      split at h
      · simp at h
      · split at h <;> simp at h
      · cases h
  · rename_i t x
    cases hp : plain x with
    | true => rw [hp] at h; simp at h
    | false =>
      rw [hp] at h
      simp only [cond_false] at h
      split at h
      · generalize Nat.beq _ 0 = q at h
        cases q <;> simp at h
      · cases h
  · cases h
theorem aop_Q {S : St} {ρ : Operand → Option Value} {o : Oper} (hq : isQ o.op = true) {out : Out} (h : aop P S ρ o = some out) : ∃ v S', out = .val v S' ∧ (S' = S ∨ S'.next = S.next + 2) := by
  have hfb : fbk P S ρ o = some out → ∃ v S', out = .val v S' ∧ (S' = S ∨ S'.next = S.next + 2) := fun hf => by
    obtain ⟨v, rfl, _⟩ := fbk_S hf
    exact ⟨v, S, rfl, .inl rfl⟩
  have hV : ∀ {x : Option Value}, outV x S = some out → ∃ v S', out = .val v S' ∧ (S' = S ∨ S'.next = S.next + 2) := fun hx => by
    obtain ⟨v, _, rfl⟩ := outV_some hx
    exact ⟨v, S, rfl, .inl rfl⟩
  obtain ⟨dst, op, type, pos, after, guard⟩ := o
  cases op with
  | move x => exact hV h
  | assign x => exact hV h
  | pick c a b =>
    simp only [aop] at h
    split at h
    · simp only [Option.some.injEq] at h; subst h; exact ⟨_, S, rfl, .inl rfl⟩
    · cases h
  | build t ps =>
    simp only [aop] at h
    split at h
    · exact hV h
    · cases h
  | load t a =>
    simp only [aop] at h
    split at h
    · exact hV h
    · cases h
  | nilCheck x =>
    simp only [aop] at h
    split at h <;> first | (simp only [Option.some.injEq] at h; subst h; exact ⟨_, S, rfl, .inl rfl⟩) | cases h
  | binOp bop t x y yt =>
    simp only [aop] at h
    split at h
    · rename_i a b _ _
      cases hp : (plain a && plain b) with
      | true => rw [hp] at h; exact hfb h
      | false => rw [hp] at h; exact hV h
    · cases h
  | unOp uop t x => exact hfb h
  | convert src d x =>
    simp only [aop] at h
    split at h
    · split at h
      · rename_i v2 S' hc
        simp only [Option.some.injEq] at h
        subst h
        exact ⟨v2, S', rfl, cvt_S hc⟩
      · exact hfb h
    · cases h
  | makeInterface t x =>
    simp only [aop] at h
    split at h
    · split at h
      · cases h
      · cases h
      · simp only [Option.some.injEq] at h; subst h; exact ⟨_, S, rfl, .inl rfl⟩
    · cases h
  | makeFunc fn a c =>
    simp only [aop] at h
    split at h
    · simp only [Option.some.injEq] at h; subst h; exact ⟨_, S, rfl, .inl rfl⟩
    · cases h
  | slice t x lo hi mx =>
    simp only [aop] at h
    split at h
    · rename_i v _ _ _ _ _ _ _
      cases hp : plain v with
      | true => rw [hp] at h; exact hfb h
      | false =>
        rw [hp] at h
        obtain ⟨v2, S', h1, rfl⟩ := outVS_some h
        exact ⟨v2, S', rfl, .inl (slc_S h1)⟩
    · cases h
  | fieldAddr s x f =>
    simp only [aop] at h
    split at h
    · exact hV h
    · cases h
  | field t x f =>
    simp only [aop] at h
    split at h
    · exact hV h
    · cases h
  | indexAddr t x i =>
    simp only [aop] at h
    split at h
    · rename_i _ j _ _
      cases hp : scalar j with
      | true => rw [hp] at h; exact hV h
      | false => rw [hp] at h; simp at h
    · cases h
  | index t x i =>
    simp only [aop] at h
    split at h
    · rename_i v j _ _
      cases hp : (plain v && plain j) with
      | true => rw [hp] at h; exact hfb h
      | false =>
        rw [hp] at h
        simp only [cond_false] at h
        cases hp : scalar j with
        | true => rw [hp] at h; exact hV h
        | false => rw [hp] at h; simp at h
    · cases h
  | lookup t x k ok =>
    simp only [aop] at h
    split at h
    · exact hV h
    · cases h
  | extract t i =>
    simp only [aop] at h
    split at h
    · exact hV h
    · cases h
  | call c =>
    simp only [aop] at h
    split at h
    · rename_i args hargs
      obtain ⟨cal, cargs, cts⟩ := c
      cases cal with
      | value f => simp [isQ] at hq
      | invoke r n => simp [isQ] at hq
      | builtin b =>
        have hb : b = .len ∨ b = .cap ∨ b = .min ∨ b = .max := by cases b <;> simp [isQ] at hq ⊢
        simp only at h
        split at h
        · rename_i out' hbl
          simp only [Option.some.injEq] at h
          subst h
          cases out' with
          | val v S' => exact ⟨v, S', rfl, .inl (bltA_S hb hbl)⟩
          | call f as => exact (bltA_call hbl).elim
        · exact hfb h
    · cases h
  | _ => simp [isQ] at hq
theorem step_Q {call : CallF} {ops : Array Oper} {env : Env} {S S' : St} {o : Oper} {v : Value} (hq : isQ o.op = true) (h : stepOp P call ops env S o = some (v, S')) (hn : S'.next = S.next) : S' = S := by
  unfold stepOp at h
  split at h
  · split at h
    · rename_i v2 S2 ha
      simp only [Option.some.injEq, Prod.mk.injEq] at h
      obtain ⟨rfl, rfl⟩ := h
      obtain ⟨v', S3, h1, h2⟩ := aop_Q hq ha
      simp only [Out.val.injEq] at h1
      obtain ⟨rfl, rfl⟩ := h1
      rcases h2 with h2 | h2
      · exact h2
      · omega
    · rename_i f args ha
      obtain ⟨v', S3, h1, _⟩ := aop_Q hq ha
      cases h1
    · cases h
  · simp only [Option.some.injEq, Prod.mk.injEq] at h
    exact h.2.symm
  · cases h
theorem aop_N {S : St} {ρ : Operand → Option Value} {o : Oper} (hq : isN o.op = true) {out : Out} (h : aop P S ρ o = some out) : ∃ v, out = .val v S ∧ ∀ S2, aop P S2 ρ o = some (.val v S2) := by
  have hfb : fbk P S ρ o = some out → (∀ S2, aop P S2 ρ o = fbk P S2 ρ o) → ∃ v, out = .val v S ∧ ∀ S2, aop P S2 ρ o = some (.val v S2) := fun hf he => by
    obtain ⟨v, rfl, h2⟩ := fbk_S hf
    exact ⟨v, rfl, fun S2 => by rw [he]; exact h2 S2⟩
  have hV : ∀ {x : Option Value}, outV x S = some out → (∀ S2, aop P S2 ρ o = outV x S2) → ∃ v, out = .val v S ∧ ∀ S2, aop P S2 ρ o = some (.val v S2) := fun hx he => by
    obtain ⟨v, rfl, rfl⟩ := outV_some hx
    exact ⟨v, rfl, fun S2 => by rw [he]; rfl⟩
  obtain ⟨dst, op, type, pos, after, guard⟩ := o
  cases op with
  | move x => exact hV h fun _ => rfl
  | assign x => exact hV h fun _ => rfl
  | pick c a b =>
    simp only [aop] at h ⊢
    split at h
    · simp only [Option.some.injEq] at h; subst h
      refine ⟨_, rfl, fun S2 => ?_⟩
      simp [*]
    · cases h
  | build t ps =>
    simp only [aop] at h
    split at h
    · refine hV h fun S2 => ?_
      simp only [aop, *]
    · cases h
  | nilCheck x =>
    simp only [aop] at h ⊢
    split at h <;> first | (simp only [Option.some.injEq] at h; subst h; refine ⟨_, rfl, fun S2 => ?_⟩; simp [*]; done) | cases h
  | binOp bop t x y yt =>
    simp only [aop] at h
    split at h
    · rename_i a b _ _
      cases hp : (plain a && plain b) with
      | true => rw [hp] at h; exact hfb h fun S2 => by simp only [aop, *, cond_true]
      | false => rw [hp] at h; exact hV h fun S2 => by simp only [aop, *, cond_false]
    · cases h
  | unOp uop t x => exact hfb h fun _ => rfl
  | makeInterface t x =>
    simp only [aop] at h ⊢
    split at h
    · split at h
      · cases h
      · cases h
      · simp only [Option.some.injEq] at h; subst h
        refine ⟨_, rfl, fun S2 => ?_⟩
        simp [*]
    · cases h
  | makeFunc fn a c =>
    simp only [aop] at h ⊢
    split at h
    · simp only [Option.some.injEq] at h; subst h
      refine ⟨_, rfl, fun S2 => ?_⟩
      simp [*]
    · cases h
  | fieldAddr s x f =>
    simp only [aop] at h
    split at h
    · refine hV h fun S2 => ?_
      simp only [aop, *]
    · cases h
  | field t x f =>
    simp only [aop] at h
    split at h
    · refine hV h fun S2 => ?_
      simp only [aop, *]
    · cases h
  | indexAddr t x i =>
    simp only [aop] at h
    split at h
    · rename_i _ j _ _
      cases hp : scalar j with
      | true => rw [hp] at h; exact hV h fun S2 => by simp only [aop, *, cond_true]
      | false => rw [hp] at h; simp at h
    · cases h
  | index t x i =>
    simp only [aop] at h
    split at h
    · rename_i v j _ _
      cases hp : (plain v && plain j) with
      | true => rw [hp] at h; exact hfb h fun S2 => by simp only [aop, *, cond_true]
      | false =>
        rw [hp] at h
        simp only [cond_false] at h
        cases hp : scalar j with
        | true => rw [hp] at h; exact hV h fun S2 => by simp only [aop, *, cond_true, cond_false]
        | false => rw [hp] at h; simp at h
    · cases h
  | extract t i =>
    simp only [aop] at h
    split at h
    · refine hV h fun S2 => ?_
      simp only [aop, *]
    · cases h
  | _ => simp [isN] at hq
theorem step_N {call : CallF} {ops : Array Oper} {env : Env} {S S' : St} {o : Oper} {v : Value} (hq : isN o.op = true) (h : stepOp P call ops env S o = some (v, S')) (S2 : St) : stepOp P call ops env S2 o = some (v, S2) := by
  unfold stepOp at h ⊢
  split at h
  · rename_i hw
    split at h
    · rename_i v2 S3 ha
      simp only [Option.some.injEq, Prod.mk.injEq] at h
      obtain ⟨rfl, rfl⟩ := h
      obtain ⟨v', h1, h2⟩ := aop_N hq ha
      simp only [Out.val.injEq] at h1
      obtain ⟨rfl, rfl⟩ := h1
      simp only [hw, h2 S2]
    · rename_i f args ha
      obtain ⟨v', h1, _⟩ := aop_N hq ha
      cases h1
    · cases h
  · rename_i hw
    simp only [Option.some.injEq, Prod.mk.injEq] at h
    simp only [hw, h.1]
  · cases h
end
end Go.Proofs.YtigkndbkaagboaaGreatDoor.Ev
end
section
namespace Go.Proofs.YtigkndbkaagboaaGreatDoor.Ev
open Go hiding Obj
set_option linter.unusedVariables false
set_option linter.unusedSimpArgs false
set_option linter.unusedSectionVars false
variable [Gl]
section
variable {P : Program}
structure PF (ops : Array Oper) (b ord : List Nat) : Prop where
  len : ord.length = ops.size
  mem : ∀ i, i < ops.size → i ∈ ord
  lt : ∀ i ∈ ord, i < ops.size
  nodup : ord.Nodup
  edge : ∀ (i : Nat) o, ops[i]? = some o → ∀ e ∈ o.after, Region.binds .any e = true → e.on < ops.size ∧ posOf ord e.on < posOf ord i
  mask : ∀ (i j : Nat) o, ops[i]? = some o → j < ops.size → bit b i j = true → (∃ e ∈ o.after, Region.binds .any e = true ∧ (e.on = j ∨ bit b e.on j = true)) ∧ posOf ord j < posOf ord i
  dst : ∀ (i j : Nat) o p d, ops[i]? = some o → ops[j]? = some p → o.dst = some d → p.dst = some d → i = j
  rds : ∀ (i j : Nat) o p d, ops[i]? = some o → ops[j]? = some p → p.dst = some d → d ∈ reads ops o → i = j ∨ bit b i j = true ∨ bit b j i = true
  eff : ∀ (i : Nat) o, ops[i]? = some o → isQ o.op = false → isF o = false → ∀ s ∈ seqOf ops ord, posOf ord s < posOf ord i → bit b i s = true
  pre : ∀ (i : Nat) o, ops[i]? = some o → ∀ s ∈ seqOf ops ord, bit b i s = true → ∀ s' ∈ seqOf ops ord, posOf ord s' < posOf ord s → bit b i s' = true
  one : ((seqOf ops ord).filter fun i => match ops[i]? with | some o => isF o | none => false).length ≤ 1
theorem nodup_of {ord : List Nat} (h : nodupB ord = true) : ord.Nodup := by
  rw [List.nodup_iff_pairwise_ne, List.pairwise_iff_getElem]
  intro i j hi hj hij e
  have key : ∀ k (hk : k < ord.length), posOf ord ord[k] = k := fun k hk => by
    have := List.all_eq_true.1 h (ord[k], k) (by rw [List.mem_zipIdx_iff_getElem?]; exact List.getElem?_eq_getElem hk)
    exact beq0 this
  have h1 := key i hi
  have h2 := key j hj
  rw [e, h2] at h1
  omega
theorem PF.of {ops : Array Oper} {b ord : List Nat} (h : planOk ops b ord = true) : PF ops b ord := by
  unfold planOk at h
  simp only [Bool.and_eq_true] at h
  obtain ⟨⟨⟨⟨⟨h1, h2⟩, h3⟩, h4⟩, h5⟩, h6⟩ := h
  have hm : ∀ i, i < ops.size → i ∈ List.range ops.size := fun i hi => List.mem_range.2 hi
  have lt' : ∀ {i : Nat} {o}, ops[i]? = some o → i < ops.size := fun h => (Array.getElem?_eq_some_iff.1 h).1
  have H := fun i o (ho : ops[i]? = some o) => List.all_eq_true.1 h5 i (hm i (lt' ho))
  have H' : ∀ i o, ops[i]? = some o → _ := fun i o ho => by
    have := H i o ho
    rw [ho] at this
    simp only [Bool.and_eq_true] at this
    exact this
  refine ⟨beq0 h1, fun i hi => ?_, fun i hi => ?_, nodup_of h4, fun i o ho e he hb => ?_, fun i j o ho hj hb => ?_, fun i j o p d ho hp hd hd' => ?_, fun i j o p d ho hp hd hr => ?_, fun i o ho hq hf s hs hlt => ?_, fun i o ho s hs hb s' hs' hlt => ?_, ble0 h6⟩
  · have := List.all_eq_true.1 h2 i (hm i hi)
    simpa using this
  · have := List.all_eq_true.1 h3 i hi
    simpa [Nat.blt_eq] using this
  · obtain ⟨⟨⟨g1, _⟩, _⟩, _⟩ := H' i o ho
    rw [Array.all_eq_true'] at g1
    have := g1 e he
    rw [hb] at this
    simpa [Nat.blt_eq] using this
  · obtain ⟨⟨⟨_, g2⟩, _⟩, _⟩ := H' i o ho
    have := List.all_eq_true.1 g2 j (hm j hj)
    obtain ⟨p, hp⟩ : ∃ p, ops[j]? = some p := ⟨ops[j], Array.getElem?_eq_getElem hj⟩
    rw [hp] at this
    simp only [Bool.and_eq_true, hb, Bool.not_true, Bool.false_or] at this
    obtain ⟨⟨⟨q1, q2⟩, _⟩, _⟩ := this
    rw [Array.any_eq_true'] at q1
    obtain ⟨e, he, hq⟩ := q1
    simp only [Bool.and_eq_true, Bool.or_eq_true] at hq
    exact ⟨⟨e, he, hq.1, hq.2.imp beq0 id⟩, by simpa [Nat.blt_eq] using q2⟩
  · obtain ⟨⟨⟨_, g2⟩, _⟩, _⟩ := H' i o ho
    have := List.all_eq_true.1 g2 j (hm j (lt' hp))
    rw [hp] at this
    simp only [Bool.and_eq_true, hd, hd'] at this
    obtain ⟨⟨_, q2⟩, _⟩ := this
    simp only [Bool.or_eq_true] at q2
    rcases q2 with q2 | q2
    · exact beq0 q2
    · simp at q2
  · obtain ⟨⟨⟨_, g2⟩, _⟩, _⟩ := H' i o ho
    have := List.all_eq_true.1 g2 j (hm j (lt' hp))
    rw [hp] at this
    simp only [Bool.and_eq_true, hd] at this
    obtain ⟨_, q3⟩ := this
    simp only [Bool.or_eq_true, Bool.not_eq_true'] at q3
    rcases q3 with ((q3 | q3) | q3) | q3
    · have : (reads ops o).contains d = true := by simpa using hr
      rw [this] at q3; cases q3
    · exact .inl (beq0 q3)
    · exact .inr (.inl q3)
    · exact .inr (.inr q3)
  · obtain ⟨⟨⟨_, _⟩, g3⟩, _⟩ := H' i o ho
    rw [hq, hf] at g3
    simp only [Bool.false_or] at g3
    have := List.all_eq_true.1 g3 s hs
    simp only [Bool.or_eq_true, Bool.not_eq_true'] at this
    rcases this with q | q
    · have : Nat.blt (posOf ord s) (posOf ord i) = true := by simpa [Nat.blt_eq] using hlt
      rw [this] at q; cases q
    · exact q
  · obtain ⟨_, g4⟩ := H' i o ho
    have := List.all_eq_true.1 g4 s hs
    simp only [Bool.or_eq_true, Bool.not_eq_true', hb, Bool.true_eq_false, false_or] at this
    have := List.all_eq_true.1 this s' hs'
    simp only [Bool.or_eq_true, Bool.not_eq_true'] at this
    rcases this with q | q
    · have : Nat.blt (posOf ord s') (posOf ord s) = true := by simpa [Nat.blt_eq] using hlt
      rw [this] at q; cases q
    · exact q
theorem PF.sorted {ops : Array Oper} {b ord : List Nat} (h : PF ops b ord) : (seqOf ops ord).Pairwise fun x y => posOf ord x < posOf ord y := by
  unfold seqOf
  refine List.Pairwise.sublist List.filter_sublist ?_
  rw [List.pairwise_iff_getElem]
  intro i j hi hj hij
  unfold posOf
  rw [h.nodup.idxOf_getElem i hi, h.nodup.idxOf_getElem j hj]
  exact hij
theorem PF.seq_lt {ops : Array Oper} {b ord : List Nat} (h : PF ops b ord) {j k s s' : Nat} (hj : (seqOf ops ord)[j]? = some s) (hk : (seqOf ops ord)[k]? = some s') (hjk : j < k) : posOf ord s < posOf ord s' := by
  obtain ⟨h1, rfl⟩ := List.getElem?_eq_some_iff.1 hj
  obtain ⟨h2, rfl⟩ := List.getElem?_eq_some_iff.1 hk
  exact (List.pairwise_iff_getElem.1 h.sorted) j k h1 h2 hjk
theorem PF.seq_inj {ops : Array Oper} {b ord : List Nat} (h : PF ops b ord) {j k s : Nat} (hj : (seqOf ops ord)[j]? = some s) (hk : (seqOf ops ord)[k]? = some s) : j = k := by
  rcases Nat.lt_trichotomy j k with hlt | rfl | hlt
  · exact absurd (h.seq_lt hj hk hlt) (by omega)
  · rfl
  · exact absurd (h.seq_lt hk hj hlt) (by omega)
noncomputable def dstOf (ops : Array Oper) (i : Nat) : Option Tmp := (ops[i]?).bind (·.dst)
/-- What a run of the region is. -/
structure TF (P : Program) (call : CallF) (ops : Array Oper) (ord : List Nat) (env0 : Env) (S0 : St) (T : List TE) (env' : Env) (S' : St) (k0 : Nat) : Prop where
  idx : T.map (·.i) = ord
  step : ∀ t ∈ T, ∃ o, ops[t.i]? = some o ∧ stepOp P call ops t.env t.S o = some (t.v, t.S') ∧ (isQ o.op = true → t.S' = t.S)
  chain : ∀ (j : Nat) (t : TE), (T.filter fun t => isSeq ops t.i)[j]? = some t → (stages ops S0 T)[j]? = some t.S ∧ (stages ops S0 T)[j + 1]? = some t.S'
  own : ∀ t ∈ T, k0 ≤ t.k ∧ (stages ops S0 T)[t.k - k0]? = some t.S
  last : (stages ops S0 T)[(T.filter fun t => isSeq ops t.i).length]? = some S'
  env : ∀ (k : Nat) (t : TE), T[k]? = some t → ∀ x v, t.env.at x = some v →
    (∃ (m : Nat) (u : TE), m < k ∧ T[m]? = some u ∧ dstOf ops u.i = some x ∧ v = u.v ∧ x < env0.sz) ∨ ((∀ (m : Nat) (u : TE), m < k → T[m]? = some u → dstOf ops u.i ≠ some x) ∧ env0.at x = some v)
  envL : ∀ x v, env'.at x = some v →
    (∃ u ∈ T, dstOf ops u.i = some x ∧ v = u.v ∧ x < env0.sz) ∨ ((∀ u ∈ T, dstOf ops u.i ≠ some x) ∧ env0.at x = some v)
  szL : env'.sz = env0.sz
theorem TF.of {call : CallF} {ops : Array Oper} : ∀ {ord : List Nat} {env0 : Env} {S0 : St} {T : List TE} {env' : Env} {S' : St} {k0 : Nat}, runT P call ops ord k0 env0 S0 = some (T, env', S') → TF P call ops ord env0 S0 T env' S' k0
  | [], env0, S0, T, env', S', k0, h => by
    simp only [runT, Option.some.injEq, Prod.mk.injEq] at h
    obtain ⟨rfl, rfl, rfl⟩ := h
    exact ⟨rfl, fun t ht => (by cases ht), fun j t hj => (by simp at hj), fun t ht => (by cases ht), (by simp [stages]), fun k t ht => (by simp at ht), fun x v hv => .inr ⟨fun u hu => (by cases hu), hv⟩, rfl⟩
  | i :: is, env0, S0, T, env', S', k0, h => by
    unfold runT at h
    cases ho : ops[i]? with
    | none => rw [ho] at h; simp at h
    | some o =>
      rw [ho] at h
      simp only at h
      cases hs : stepOp P call ops env0 S0 o with
      | none => rw [hs] at h; simp at h
      | some vs =>
        obtain ⟨v0, S1⟩ := vs
        rw [hs] at h
        simp only at h
        cases hq : (isQ o.op && !(Nat.beq S1.next S0.next)) with
        | true => rw [hq] at h; simp at h
        | false =>
          rw [hq] at h
          simp only [cond_false] at h
          have hQ : isQ o.op = true → S1 = S0 := fun hqq => by
            rw [hqq] at hq
            simp only [Bool.true_and, Bool.not_eq_false'] at hq
            exact step_Q hqq hs (beq0 hq)
          cases hr : runT P call ops is (bif isQ o.op then k0 else k0 + 1) (env0.up o.dst v0) S1 with
          | none => rw [hr] at h; simp at h
          | some q =>
            obtain ⟨T1, e1, s1⟩ := q
            rw [hr] at h
            simp only [Option.some.injEq, Prod.mk.injEq] at h
            obtain ⟨rfl, rfl, rfl⟩ := h
            have ih := TF.of hr
            have hd : dstOf ops i = o.dst := by simp [dstOf, ho]
            have hsz : (env0.up o.dst v0).sz = env0.sz := Env.sz_up _ _ _
            refine ⟨by simp [ih.idx], ?_, ?_, ?_, ?_, ?_, ?_, by rw [ih.szL, hsz]⟩
            · intro t ht
              rcases List.mem_cons.1 ht with rfl | ht
              · exact ⟨o, ho, hs, hQ⟩
              · exact ih.step t ht
            · cases hseq : isSeq ops i with
              | false =>
                have hqq : isQ o.op = true := by simpa [isSeq, ho] using hseq
                obtain rfl := hQ hqq
                intro j t hj
                rw [List.filter_cons_of_neg (by simp [hseq])] at hj
                have := ih.chain j t hj
                unfold stages at this ⊢
                rw [List.filter_cons_of_neg (by simp [hseq])]
                exact this
              | true =>
                intro j t hj
                rw [List.filter_cons_of_pos (by simp [hseq])] at hj
                unfold stages
                rw [List.filter_cons_of_pos (by simp [hseq])]
                cases j with
                | zero =>
                  simp only [List.getElem?_cons_zero, Option.some.injEq] at hj
                  subst hj
                  exact ⟨rfl, rfl⟩
                | succ j =>
                  simp only [List.getElem?_cons_succ] at hj
                  have := ih.chain j t hj
                  unfold stages at this
                  simpa using this
            · intro t ht
              rcases List.mem_cons.1 ht with rfl | ht
              · exact ⟨Nat.le_refl _, by simp [stages]⟩
              · obtain ⟨g1, g2⟩ := ih.own t ht
                cases hseq : isSeq ops i with
                | false =>
                  have hqq : isQ o.op = true := by simpa [isSeq, ho] using hseq
                  obtain rfl := hQ hqq
                  rw [hqq] at g1 g2
                  simp only [cond_true] at g1 g2
                  refine ⟨g1, ?_⟩
                  unfold stages at g2 ⊢
                  rw [List.filter_cons_of_neg (by simp [hseq])]
                  exact g2
                | true =>
                  have hqq : isQ o.op = false := by simpa [isSeq, ho] using hseq
                  rw [hqq] at g1 g2
                  simp only [cond_false] at g1 g2
                  refine ⟨by omega, ?_⟩
                  unfold stages at g2 ⊢
                  rw [List.filter_cons_of_pos (by simp [hseq]), show t.k - k0 = (t.k - (k0 + 1)) + 1 by omega]
                  simpa using g2
            · cases hseq : isSeq ops i with
              | false =>
                have hqq : isQ o.op = true := by simpa [isSeq, ho] using hseq
                obtain rfl := hQ hqq
                have := ih.last
                unfold stages at this ⊢
                rw [List.filter_cons_of_neg (by simp [hseq])]
                exact this
              | true =>
                have := ih.last
                unfold stages at this ⊢
                rw [List.filter_cons_of_pos (by simp [hseq])]
                simpa using this
            · intro k t hk x v hv
              cases k with
              | zero =>
                simp only [List.getElem?_cons_zero, Option.some.injEq] at hk
                subst hk
                exact .inr ⟨fun m u hm => by omega, hv⟩
              | succ k =>
                simp only [List.getElem?_cons_succ] at hk
                rcases ih.env k t hk x v hv with ⟨m, u, h1, h2, h3, h4, h5⟩ | ⟨h1, h2⟩
                · exact .inl ⟨m + 1, u, by omega, by simpa using h2, h3, h4, by rw [← hsz]; exact h5⟩
                · rcases Env.at_up h2 with ⟨g1, g2, g3⟩ | ⟨g1, g2⟩
                  · exact .inl ⟨0, ⟨i, env0, S0, v0, S1, k0⟩, by omega, rfl, by rw [hd]; exact g1, g2, g3⟩
                  · refine .inr ⟨fun m u hm hu => ?_, g2⟩
                    cases m with
                    | zero =>
                      simp only [List.getElem?_cons_zero, Option.some.injEq] at hu
                      subst hu
                      rw [hd]; exact g1
                    | succ m => exact h1 m u (by omega) (by simpa using hu)
            · intro x v hv
              rcases ih.envL x v hv with ⟨u, h1, h2, h3, h4⟩ | ⟨h1, h2⟩
              · exact .inl ⟨u, List.mem_cons_of_mem _ h1, h2, h3, by rw [← hsz]; exact h4⟩
              · rcases Env.at_up h2 with ⟨g1, g2, g3⟩ | ⟨g1, g2⟩
                · exact .inl ⟨⟨i, env0, S0, v0, S1, k0⟩, List.mem_cons_self, by rw [hd]; exact g1, g2, g3⟩
                · refine .inr ⟨fun u hu => ?_, g2⟩
                  rcases List.mem_cons.1 hu with rfl | hu
                  · rw [hd]; exact g1
                  · exact h1 u hu
end
end Go.Proofs.YtigkndbkaagboaaGreatDoor.Ev
end
