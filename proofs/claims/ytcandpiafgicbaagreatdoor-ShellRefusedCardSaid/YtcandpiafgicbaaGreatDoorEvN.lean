/- The evaluator's operations: maps that are written, ways through maps and strings, equality, methods. -/
import Derived.Test.YtcandpiafgicbaaGreatDoorEvM
namespace Go.Proofs.YtcandpiafgicbaaGreatDoor.Ev
open Go hiding Obj
set_option linter.unusedVariables false
set_option linter.unusedSimpArgs false
set_option linter.unusedSectionVars false
variable [Gl]
theorem EsR.modify {r : Ren} : ∀ {es : List (Value × Value × Nat)} {es' : List MapEntry}, EsR r es es' → ∀ {k v v' : Value}, plain k = true → VR r v v' → ∀ (i : Nat),
    EsR r (es.modify i fun e => (k, v, e.2.2)) (es'.modify i fun e => { e with key := k, val := v' })
  | _, _, .nil, _, _, _, _, _, _ => by simpa using EsR.nil
  | _, _, .cons hk hv h, k, v, v', hp, hvv, 0 => by simpa using EsR.cons hp hvv h
  | _, _, .cons hk hv h, k, v, v', hp, hvv, i + 1 => by simpa using EsR.cons hk hv (EsR.modify h hp hvv i)
theorem EsR.snoc {r : Ren} : ∀ {es : List (Value × Value × Nat)} {es' : List MapEntry}, EsR r es es' → ∀ {k v v' : Value} (b : Nat), plain k = true → VR r v v' → EsR r (es ++ [(k, v, b)]) (es' ++ [{ key := k, val := v', born := b }])
  | _, _, .nil, _, _, _, b, hp, hvv => .cons hp hvv .nil
  | _, _, .cons hk hv h, _, _, _, b, hp, hvv => .cons hk hv (EsR.snoc h b hp hvv)
theorem EsR.erase {r : Ren} : ∀ {es : List (Value × Value × Nat)} {es' : List MapEntry}, EsR r es es' → ∀ (i : Nat), EsR r (es.eraseIdx i) (es'.eraseIdx i)
  | _, _, .nil, _ => by simpa using EsR.nil
  | _, _, .cons hk hv h, 0 => by simpa using h
  | _, _, .cons hk hv h, i + 1 => by simpa using EsR.cons hk hv (EsR.erase h i)
theorem EsR.getKey {r : Ren} : ∀ {es : List (Value × Value × Nat)} {es' : List MapEntry}, EsR r es es' → ∀ (i : Nat), (es'[i]?).map (·.key) = (es[i]?).map (·.1)
  | _, _, .nil, _ => by simp
  | _, _, .cons hk hv h, 0 => by simp
  | _, _, .cons hk hv h, i + 1 => by simpa using EsR.getKey h i
section
variable {P : Program}
/-- m[k] = v -/
noncomputable def mup (P : Program) (S : St) (t : TypeId) (x k v : Value) : Option St :=
  match P.underlying t, x with
  | some (.map key _), .map (some m) =>
    match S.get m with
    | some (.map es clock) =>
      bif plain k then
        match pureRun P (Instr.checkKey false 10000 key k), pureRun P (Instr.findKey key k (es.map ent)) with
        | some (), some (some (i, _)) =>
          match pureRun P (Instr.keyThatStays (((es[i]?).map (·.1)).getD k) k) with
          | some k' => bif plain k' then some (S.set m (.map (es.modify i fun e => (k', v, e.2.2)) clock)) else none
          | none => none
        | some (), some none => some (S.set m (.map (es ++ [(k, v, clock)]) (clock + 1)))
        | _, _ => none
      else none
    | _ => none
  | _, _ => none
theorem mup_sim {r : Ren} {S S' : St} {w : World} (hr : Rel r S w) {t : TypeId} {x x' k v v' : Value} (hx : VR r x x') (hv : VR r v v') (hb : mup P S t x k v = some S') : ∃ w', (Instr.mapUpdate t x' k v').run P w = .ok () w' ∧ Fr r S w r S' w' := by
  unfold mup at hb
  split at hb
  case h_2 => cases hb
  rename_i key el m hu
  split at hb
  case h_2 => cases hb
  rename_i es clock hg
  cases hp : plain k with
  | false => rw [hp] at hb; simp at hb
  | true =>
    rw [hp] at hb
    simp only [cond_true] at hb
    obtain ⟨hmn, es', h1, h2⟩ := hr.objs m _ hg
    have hget := run_getMap (P := P) h1 (fun _ _ _ h => by cases h)
    have hset := fun x => run_setMap (P := P) (x := x) h1 (fun _ _ _ h => by cases h)
    cases hx with
    | sc _ h => simp [scalar] at h
    | map _ hm =>
      split at hb
      · rename_i i vv hck hfk
        split at hb
        case h_2 => cases hb
        rename_i k' hkk
        cases hp' : plain k' with
        | false => rw [hp'] at hb; simp at hb
        | true =>
          rw [hp'] at hb
          simp only [cond_true, Option.some.injEq] at hb
          subst hb
          obtain ⟨res', f1, f2⟩ := findKey_rel (P := P) h2 hfk
          cases f2 with
          | some j hv2 =>
            have hks := pureRun_run hkk w
            have hgk := h2.getKey i
            refine ⟨_, ?_, hr.setO (ob' := .map (es.modify i fun e => (k', v, e.2.2)) clock) hg rfl rfl (x' := .map ⟨es'.modify i fun e => { e with key := k', val := v' }⟩ clock) fun w' _ hw' => ⟨_, hw', h2.modify hp' hv i⟩⟩
            have e1 : (⟨es'⟩ : Array MapEntry).modify i (fun e => { e with key := k', val := v' }) = ⟨es'.modify i fun e => { e with key := k', val := v' }⟩ := by
              apply Array.ext'; simp
            simp [Instr.mapUpdate, run_und hu, hget, pureRun_run hck w, f1 w, hgk, hks, hset, e1]
      · rename_i hck hfk
        simp only [Option.some.injEq] at hb
        subst hb
        obtain ⟨res', f1, f2⟩ := findKey_rel (P := P) h2 hfk
        cases f2 with
        | none =>
          refine ⟨_, ?_, hr.setO (ob' := .map (es ++ [(k, v, clock)]) (clock + 1)) hg rfl rfl (x' := .map ⟨es' ++ [{ key := k, val := v', born := clock }]⟩ (clock + 1)) fun w' _ hw' => ⟨_, hw', h2.snoc clock hp hv⟩⟩
          simp [Instr.mapUpdate, run_und hu, hget, pureRun_run hck w, f1 w, hset]
      · cases hb
/-- delete(m, k) -/
noncomputable def mdl (P : Program) (S : St) (t : TypeId) (x k : Value) : Option St :=
  match P.underlying t, x with
  | some (.map key _), .map (some m) =>
    match S.get m with
    | some (.map es clock) =>
      bif plain k then
        match pureRun P (Instr.checkKey es.isEmpty 10000 key k), pureRun P (Instr.findKey key k (es.map ent)) with
        | some (), some (some (i, _)) => some (S.set m (.map (es.eraseIdx i) clock))
        | some (), some none => some S
        | _, _ => none
      else none
    | _ => none
  | _, _ => none
theorem mdl_sim {r : Ren} {S S' : St} {w : World} (hr : Rel r S w) {t tk ty : TypeId} {x x' k : Value} (hx : VR r x x') (hb : mdl P S t x k = some S') : ∃ w', (Builtin.delete_ #[t, tk] ty #[x', k]).run P w = .ok (.tuple #[]) w' ∧ Fr r S w r S' w' := by
  unfold mdl at hb
  split at hb
  case h_2 => cases hb
  rename_i key el m hu
  split at hb
  case h_2 => cases hb
  rename_i es clock hg
  cases hp : plain k with
  | false => rw [hp] at hb; simp at hb
  | true =>
    rw [hp] at hb
    simp only [cond_true] at hb
    obtain ⟨hmn, es', h1, h2⟩ := hr.objs m _ hg
    have hget := run_getMap (P := P) h1 (fun _ _ _ h => by cases h)
    have hset := fun x => run_setMap (P := P) (x := x) h1 (fun _ _ _ h => by cases h)
    have hemp : es.isEmpty = es'.isEmpty := by cases h2 <;> rfl
    cases hx with
    | sc _ h => simp [scalar] at h
    | map _ hm =>
      split at hb
      · rename_i i vv hck hfk
        simp only [Option.some.injEq] at hb
        subst hb
        obtain ⟨res', f1, f2⟩ := findKey_rel (P := P) h2 hfk
        rw [hemp] at hck
        cases f2 with
        | some j hv2 =>
          refine ⟨_, ?_, hr.setO (ob' := .map (es.eraseIdx i) clock) hg rfl rfl (x' := .map ⟨es'.eraseIdx i⟩ clock) fun w' _ hw' => ⟨_, hw', h2.erase i⟩⟩
          have e1 : (⟨es'⟩ : Array MapEntry).eraseIdxIfInBounds i = ⟨es'.eraseIdx i⟩ := by
            apply Array.ext'
            unfold Array.eraseIdxIfInBounds
            split
            · simp
            · rename_i hlt
              simp only [List.size_toArray] at hlt
              exact (List.eraseIdx_of_length_le (by omega : es'.length ≤ i)).symm
          simp [Builtin.delete_, run_und hu, hget, pureRun_run hck w, f1 w, hset, e1]
      · rename_i hck hfk
        simp only [Option.some.injEq] at hb
        subst hb
        obtain ⟨res', f1, f2⟩ := findKey_rel (P := P) h2 hfk
        rw [hemp] at hck
        cases f2 with
        | none =>
          refine ⟨w, ?_, Fr.refl hr⟩
          have e2 : ({ w with heap := w.heap.setIfInBounds (r.μ m) (.map ⟨es'⟩ clock) } : World) = w := by
            have : w.heap.setIfInBounds (r.μ m) (.map ⟨es'⟩ clock) = w.heap := by
              apply Array.ext
              · simp
              · intro i hi1 hi2
                rw [Array.getElem_setIfInBounds]
                split
                · rename_i e; subst e
                  rw [Array.getElem?_eq_getElem hi2] at h1
                  injection h1 with h1
                  exact h1.symm
                · rfl
            rw [this]
          simp [Builtin.delete_, run_und hu, hget, pureRun_run hck w, f1 w, hset, e2]
      · cases hb
/-- A way through a string or a map. -/
noncomputable def rng (P : Program) (S : St) (t : TypeId) (x : Value) : Option (Value × St) :=
  match P.underlying t, x with
  | some .string, .string s => some (.pointer (some ⟨S.next, 0, none⟩), S.new (.siter s 0))
  | some (.map _ _), .map (some m) =>
    match S.get m with
    | some (.map _ clock) => some (.pointer (some ⟨S.next, 0, none⟩), S.new (.miter m clock [] clock))
    | _ => none
  | _, _ => none
theorem rng_sim {r : Ren} {S S' : St} {w : World} (hr : Rel r S w) {t : TypeId} {x x' v : Value} (hx : VR r x x') (hb : rng P S t x = some (v, S')) : ∃ r' w' v', (Instr.range t x').run P w = .ok v' w' ∧ Fr r S w r' S' w' ∧ VR r' v v' := by
  unfold rng at hb
  split at hb
  · rename_i s hu
    simp only [Option.some.injEq, Prod.mk.injEq] at hb
    obtain ⟨rfl, rfl⟩ := hb
    cases hx with
    | sc _ _ =>
      refine ⟨_, _, _, ?_, hr.push false (k := 0) rfl (i := S.next) rfl rfl (x := .stringIter s 0) (fun r' S' hle hm hd _ => ⟨hd, by rw [hm, heap_new']⟩), VR.newP hr _ _⟩
      simp [Instr.range, run_und hu, newObj, Sem.run]
  · rename_i k e m hu
    split at hb
    case h_2 => cases hb
    rename_i es clock hg
    simp only [Option.some.injEq, Prod.mk.injEq] at hb
    obtain ⟨rfl, rfl⟩ := hb
    obtain ⟨hmn, es', h1, h2⟩ := hr.objs m _ hg
    have hget := run_getMap (P := P) h1 (fun _ _ _ h => by cases h)
    cases hx with
    | sc _ h => simp [scalar] at h
    | map _ hm =>
      refine ⟨_, _, _, ?_, hr.push false (k := 0) rfl (i := S.next) rfl rfl (x := .mapIter (some (r.μ m)) clock #[] clock) (fun r' S' hle hm hd _ => ⟨Nat.lt_of_lt_of_le hmn hle.1, hd, by rw [hm, heap_new', (hle.2 m hmn).1]⟩), VR.newP hr _ _⟩
      simp [Instr.range, run_und hu, hget, newObj, Sem.run]
  · cases hb
/-- The entries that were not seen. -/
noncomputable def unseen (seen : List Nat) (es : List (Value × Value × Nat)) : List (Value × Value × Nat) := es.filter fun e => !seen.contains e.2.2
noncomputable def nxt (S : St) (it : Value) (str : Bool) : Option (Value × St) :=
  match it with
  | .pointer (some ⟨i, 0, none⟩) =>
    match S.get i, str with
    | some (.siter s pos), true =>
      bif Nat.blt pos s.size then some (.tuple #[.bool true, goInt pos, .int .i32 (Utf8.decode s pos).1], S.set i (.siter s (pos + (Utf8.decode s pos).2)))
      else some (.tuple #[.bool false], S)
    | some (.miter m since seen last), false =>
      match S.get m with
      | some (.map es clock) =>
        bif !seen.isEmpty && !es.isEmpty && es.all (fun e => Nat.ble last e.2.2) then none else
        match (unseen seen es).filter (fun e => Nat.blt e.2.2 since), (unseen seen es).filter (fun e => Nat.ble since e.2.2) with
        | [], [] => some (.tuple #[.bool false], S)
        | [e], [] => some (.tuple #[.bool true, e.1, e.2.1], S.set i (.miter m since (seen ++ [e.2.2]) clock))
        | _, _ => none
      | _ => none
    | _, _ => none
  | _ => none
theorem EsR.filter {r : Ren} (f : Nat → Bool) : ∀ {es : List (Value × Value × Nat)} {es' : List MapEntry}, EsR r es es' → EsR r (es.filter fun e => f e.2.2) (es'.filter fun e => f e.born)
  | _, _, .nil => by simpa using EsR.nil
  | _, _, .cons (b := b) hk hv h => by
    simp only [List.filter_cons]
    cases f b
    · simpa using EsR.filter f h
    · simpa using EsR.cons hk hv (EsR.filter f h)
theorem EsR.all {r : Ren} (f : Nat → Bool) : ∀ {es : List (Value × Value × Nat)} {es' : List MapEntry}, EsR r es es' → (es'.all fun e => f e.born) = (es.all fun e => f e.2.2)
  | _, _, .nil => rfl
  | _, _, .cons hk hv h => by simp [EsR.all f h]
theorem nxt_sim {r : Ren} {S S' : St} {w : World} (hr : Rel r S w) {it it' v : Value} (ty : TypeId) (hx : VR r it it') {str : Bool} (hb : nxt S it str = some (v, S')) : ∃ w' v', (Instr.next it' str ty).run P w = .ok v' w' ∧ Fr r S w r S' w' ∧ VR r v v' := by
  unfold nxt at hb
  split at hb
  case h_2 => cases hb
  rename_i i
  split at hb
  · rename_i s pos hg
    obtain ⟨hd, h1⟩ := (hr.objs i _ hg).2
    have hget := run_getMap (P := P) h1 (fun _ _ _ h => by cases h)
    have hset := fun x => run_setMap (P := P) (x := x) h1 (fun _ _ _ h => by cases h)
    cases hx with
    | sc _ h => simp [scalar] at h
    | ptr _ _ hn =>
      rw [hd]
      cases hlt : Nat.blt pos s.size with
      | true =>
        rw [hlt] at hb
        simp only [cond_true, Option.some.injEq, Prod.mk.injEq] at hb
        obtain ⟨rfl, rfl⟩ := hb
        have hlt' : pos < s.size := by simpa [Nat.blt_eq] using hlt
        refine ⟨_, _, ?_, hr.setO (ob' := .siter s (pos + (Utf8.decode s pos).2)) hg rfl rfl (x' := .stringIter s (pos + (Utf8.decode s pos).2)) (fun w' _ hw' => ⟨hd, hw'⟩), VR.pl rfl⟩
        simp [Instr.next, hget, hlt', hset]
      | false =>
        rw [hlt] at hb
        simp only [cond_false, Option.some.injEq, Prod.mk.injEq] at hb
        obtain ⟨rfl, rfl⟩ := hb
        have hlt' : ¬ pos < s.size := by
          intro h
          have : Nat.blt pos s.size = true := by simpa [Nat.blt_eq] using h
          rw [this] at hlt; cases hlt
        exact ⟨w, _, by simp [Instr.next, hget, hlt'], Fr.refl hr, VR.pl rfl⟩
  · rename_i m since seen last hg
    obtain ⟨hmn, hd, h1⟩ := (hr.objs i _ hg).2
    have hget := run_getMap (P := P) h1 (fun _ _ _ h => by cases h)
    have hset := fun x => run_setMap (P := P) (x := x) h1 (fun _ _ _ h => by cases h)
    split at hb
    case h_2 => cases hb
    rename_i es clock hgm
    obtain ⟨_, es', g1, g2⟩ := hr.objs m _ hgm
    have hgetm := run_getMap (P := P) g1 (fun _ _ _ h => by cases h)
    cases hguard : (!seen.isEmpty && !es.isEmpty && es.all (fun e => Nat.ble last e.2.2)) with
    | true => rw [hguard] at hb; simp at hb
    | false =>
      rw [hguard] at hb
      simp only [cond_false] at hb
      have hemp : es.isEmpty = es'.isEmpty := by cases g2 <;> rfl
      have hall : (es'.all fun e => decide (e.born ≥ last)) = es.all (fun e => Nat.ble last e.2.2) := by
        rw [← g2.all (fun b => Nat.ble last b)]
        congr 1
        funext e
        by_cases h : last ≤ e.born
        · rw [Nat.ble_eq_true_of_le h]; simpa using h
        · have : Nat.ble last e.born = false := by
            cases hq : Nat.ble last e.born
            · rfl
            · exact absurd (ble0 hq) h
          rw [this]; simpa using h
      have hU := g2.filter (fun b => !seen.contains b)
      have hO := hU.filter (fun b => Nat.blt b since)
      have hN := hU.filter (fun b => Nat.ble since b)
      have eO : ((es'.filter fun e => !seen.contains e.born).filter fun e => decide (e.born < since)) = ((es'.filter fun e => !seen.contains e.born).filter fun e => Nat.blt e.born since) := by
        congr 1; funext e
        by_cases h : e.born < since
        · have : Nat.blt e.born since = true := by simpa [Nat.blt_eq] using h
          rw [this]; simpa using h
        · have : Nat.blt e.born since = false := by
            cases hq : Nat.blt e.born since
            · rfl
            · exact absurd (by simpa [Nat.blt_eq] using hq) h
          rw [this]; simpa using h
      have eN : ((es'.filter fun e => !seen.contains e.born).filter fun e => decide (e.born ≥ since)) = ((es'.filter fun e => !seen.contains e.born).filter fun e => Nat.ble since e.born) := by
        congr 1; funext e
        by_cases h : since ≤ e.born
        · rw [Nat.ble_eq_true_of_le h]; simpa using h
        · have : Nat.ble since e.born = false := by
            cases hq : Nat.ble since e.born
            · rfl
            · exact absurd (ble0 hq) h
          rw [this]; simpa using h
      have hguard' : ¬ (((⟨seen⟩ : Array Nat).isEmpty = false ∧ (⟨es'⟩ : Array MapEntry).isEmpty = false) ∧ ((⟨es'⟩ : Array MapEntry).all fun e => decide (e.born ≥ last)) = true) := by
        rintro ⟨⟨q1, q2⟩, q3⟩
        rw [hemp, ← hall] at hguard
        have q1' : seen.isEmpty = false := by simpa using q1
        have q2' : es'.isEmpty = false := by simpa using q2
        have q3' : (es'.all fun e => decide (e.born ≥ last)) = true := by simpa using q3
        rw [q1', q2', q3'] at hguard
        cases hguard
      cases hx with
      | sc _ h => simp [scalar] at h
      | ptr _ _ hn =>
        rw [hd]
        have hc : (fun e : MapEntry => !(⟨seen⟩ : Array Nat).contains e.born) = fun e => !seen.contains e.born := by funext e; simp
        have A : ∀ (p : MapEntry → Bool), Array.filter p (Array.filter (fun e => !(⟨seen⟩ : Array Nat).contains e.born) ⟨es'⟩) = ⟨(es'.filter fun e => !seen.contains e.born).filter p⟩ := fun p => by
          apply Array.ext'
          rw [Array.toList_filter, Array.toList_filter, hc]
        unfold unseen at hb
        split at hb
        · rename_i o1 o2
          simp only [Option.some.injEq, Prod.mk.injEq] at hb
          obtain ⟨rfl, rfl⟩ := hb
          rw [o1, ← eO] at hO
          rw [o2, ← eN] at hN
          have z1 : ((es'.filter fun e => !seen.contains e.born).filter fun e => decide (e.born < since)) = [] := by generalize ((es'.filter fun e => !seen.contains e.born).filter fun e => decide (e.born < since)) = L at hO; cases hO; rfl
          have z2 : ((es'.filter fun e => !seen.contains e.born).filter fun e => decide (e.born ≥ since)) = [] := by generalize ((es'.filter fun e => !seen.contains e.born).filter fun e => decide (e.born ≥ since)) = L at hN; cases hN; rfl
          refine ⟨w, _, ?_, Fr.refl hr, VR.pl rfl⟩
          simp only [Instr.next, Sem.run_bind, hget, Result.andThen_ok, hgetm]
          rw [if_neg (by simpa using hguard')]
          rw [A, A, z1, z2]
          simp [choose, Sem.run, Question.forced]
        · rename_i e o1 o2
          simp only [Option.some.injEq, Prod.mk.injEq] at hb
          obtain ⟨rfl, rfl⟩ := hb
          rw [o1, ← eO] at hO
          rw [o2, ← eN] at hN
          obtain ⟨ek, ev, eb⟩ := e
          have z1 : ∃ v', ((es'.filter fun e => !seen.contains e.born).filter fun e => decide (e.born < since)) = [{ key := ek, val := v', born := eb }] ∧ plain ek = true ∧ VR r ev v' := by
            generalize ((es'.filter fun e => !seen.contains e.born).filter fun e => decide (e.born < since)) = L at hO
            cases hO with
            | cons hk hv h => cases h; exact ⟨_, rfl, hk, hv⟩
          obtain ⟨v', z1, hk, hv⟩ := z1
          have z2 : ((es'.filter fun e => !seen.contains e.born).filter fun e => decide (e.born ≥ since)) = [] := by generalize ((es'.filter fun e => !seen.contains e.born).filter fun e => decide (e.born ≥ since)) = L at hN; cases hN; rfl
          refine ⟨_, _, ?_, hr.setO (ob' := .miter m since (seen ++ [eb]) clock) hg rfl rfl (x' := .mapIter (some (r.μ m)) since ⟨seen ++ [eb]⟩ clock) (fun w' _ hw' => ⟨hmn, hd, hw'⟩), .tuple (.cons (.sc _ rfl) (.cons (VR.pl hk) (.cons hv .nil)))⟩
          simp only [Instr.next, Sem.run_bind, hget, Result.andThen_ok, hgetm]
          rw [if_neg (by simpa using hguard')]
          rw [A, A, z1, z2]
          simp [choose, Sem.run, Question.forced, hset]
        · cases hb
  · cases hb
end
end Go.Proofs.YtcandpiafgicbaaGreatDoor.Ev
