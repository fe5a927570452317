/- The evaluator's operations, and that the model's do the same. -/
import Derived.Test.YtcandpiafgicbaaGreatDoorEvR
namespace Go.Proofs.YtcandpiafgicbaaGreatDoor.Ev
open Go hiding Obj
set_option linter.unusedVariables false
set_option linter.unusedSimpArgs false
set_option linter.unusedSectionVars false
variable [Gl]
/-- Runs what asks nothing of the world. -/
noncomputable def pureRun {α : Type} (P : Program) : Sem α → Option α
  | .pure a => some a
  | .program k => pureRun P (k P)
  | .mark _ k => pureRun P k
  | _ => none
theorem pureRun_run {α : Type} {P : Program} : ∀ {s : Sem α} {a : α}, pureRun P s = some a → ∀ w, s.run P w = .ok a w
  | .pure _, _, h, w => by simp only [pureRun, Option.some.injEq] at h; subst h; rfl
  | .program k, _, h, w => by simp only [pureRun] at h; exact pureRun_run (s := k P) h w
  | .mark _ k, _, h, w => by simp only [pureRun] at h; exact pureRun_run (s := k) h w
  | .load .., _, h, _ => by simp [pureRun] at h
  | .store .., _, h, _ => by simp [pureRun] at h
  | .new .., _, h, _ => by simp [pureRun] at h
  | .shape .., _, h, _ => by simp [pureRun] at h
  | .freeze .., _, h, _ => by simp [pureRun] at h
  | .frozen .., _, h, _ => by simp [pureRun] at h
  | .getObj .., _, h, _ => by simp [pureRun] at h
  | .setObj .., _, h, _ => by simp [pureRun] at h
  | .choose .., _, h, _ => by simp [pureRun] at h
  | .sys .., _, h, _ => by simp [pureRun] at h
  | .halt _, _, h, _ => by simp [pureRun] at h
theorem VR.one {r : Ren} {v v' : Value} (h : VR r v v') : v'.oneCell' = v.oneCell' := by cases h <;> rfl
theorem VRs.one {r : Ren} : ∀ {xs ys : List Value}, VRs r xs ys → (xs.all (·.oneCell')) = true → ∀ v ∈ ys, v.oneCell' = true
  | _, _, .nil, _, v, hv => by cases hv
  | _, _, .cons h hs, e, v, hv => by
    simp only [List.all_cons, Bool.and_eq_true] at e
    rcases List.mem_cons.1 hv with rfl | hv
    · rw [h.one]; exact e.1
    · exact VRs.one hs e.2 v hv
theorem VR.cells {r : Ren} {v v' : Value} (h : VR r v v') : VRs r v.cells.toList v'.cells.toList := by
  cases h with
  | agg h => exact h
  | sc v h => cases v <;> simp [Value.cells, scalar] at h ⊢ <;> exact .cons (.sc _ (by simp [scalar, *])) .nil
  | ptr b o h => exact .cons (.ptr b o h) .nil
  | slE b o l c h he => exact .cons (.slE b o l c h he) .nil
  | slO b o l e m d h ho he ha => exact .cons (.slO b o l e m d h ho he ha) .nil
  | slK b o l k m d h ho ha => exact .cons (.slK b o l k m d h ho ha) .nil
  | map b h => exact .cons (.map b h) .nil
  | func fn hx hy => exact .cons (.func fn hx hy) .nil
  | iface t h => exact .cons (.iface t h) .nil
  | tuple h => exact .cons (.tuple h) .nil
section
variable {P : Program}
theorem run_und {t : TypeId} {d : TypeDesc} (h : P.underlying t = some d) (w : World) : (underlying t).run P w = .ok d w := by simp [underlying, h]
theorem run_ti {t : TypeId} {i : TypeInfo} (h : P.info? t = some i) (w : World) : (typeInfo t).run P w = .ok i w := by simp [typeInfo, h]
theorem run_so {t : TypeId} {i : TypeInfo} (h : P.info? t = some i) (w : World) : (sizeOf t).run P w = .ok i.size w := by simp [sizeOf, run_ti h]
theorem run_zv {t : TypeId} {i : TypeInfo} {z : Value} (h : P.info? t = some i) (hz : i.zero = some z) (w : World) : (zeroValue t).run P w = .ok z w := by simp [zeroValue, run_ti h, hz]
theorem loadCells_rel {r : Ren} {S : St} {w : World} (h : Rel r S w) {b : Nat} {c : List Value} {e : TypeId} {sz : Nat} (hb : S.get b = some (.cells c e sz)) {o n : Nat} (hn : ((c.drop o).take n).length = n) :
    ∃ xs', (loadCells ⟨r.μ b, o + r.δ b, none⟩ n).run P w = .ok ⟨xs'⟩ w ∧ VRs r ((c.drop o).take n) xs' := by
  have hlen : ∀ j, j < n → j + o < c.length := fun j hj => by simp at hn; omega
  have key : ∀ j, j < n → ∃ v', w.cell? ⟨r.μ b, j + o + r.δ b, none⟩ = some v' ∧ VR r (c.getD (j + o) undef) v' := fun j hj => by
    obtain ⟨v', h1, h2, _⟩ := h.cells hb (List.getElem?_eq_getElem (hlen j hj))
    exact ⟨v', h1, by rw [List.getD_eq_getElem?_getD, List.getElem?_eq_getElem (hlen j hj)]; exact h2⟩
  refine ⟨((List.range n).map fun j => (w.cell? ⟨r.μ b, j + o + r.δ b, none⟩).getD undef), ?_, ?_⟩
  · rw [run_loadCells (P := P) (w := w) _ n (fun j => (w.cell? ⟨r.μ b, j + o + r.δ b, none⟩).getD undef)]
    intro j hj
    obtain ⟨v', h1, _⟩ := key j hj
    have : (⟨r.μ b, o + r.δ b, none⟩ : Addr).add j = ⟨r.μ b, j + o + r.δ b, none⟩ := by
      unfold Addr.add
      split
      · rename_i e; subst e; simp
      · simp; omega
    rw [this, h1]; rfl
  · refine VRs.of_get (by simpa using hn) fun j v hj => ?_
    have hjn : j < n := by
      have := (List.getElem?_eq_some_iff.1 hj).1
      omega
    obtain ⟨v', h1, h2⟩ := key j hjn
    refine ⟨v', by simp [hjn, h1], ?_⟩
    rw [List.getElem?_take_of_lt hjn, List.getElem?_drop] at hj
    rw [List.getD_eq_getElem?_getD, show j + o = o + j by omega, hj] at h2
    exact h2
/-- A load. -/
noncomputable def ld (P : Program) (S : St) (t : TypeId) : Value → Option Value
  | .pointer (some ⟨b, o, none⟩) =>
    match S.get b with
    | some (.cells c _ _) =>
      match P.underlying t with
      | some (.struct _) | some (.array _ _) =>
        match P.info? t with
        | some i => let xs := (c.drop o).take i.size; bif Nat.beq xs.length i.size then some (.agg ⟨xs⟩) else none
        | none => none
      | some _ => c[o]?
      | none => none
    | _ => none
  | _ => none
theorem loadVar_rel {r : Ren} {S : St} {w : World} (h : Rel r S w) {b : Nat} {c : List Value} {e : TypeId} {sz : Nat} (hb : S.get b = some (.cells c e sz)) {o : Nat} {t : TypeId} {x : Value} (hx : ld P S t (.pointer (some ⟨b, o, none⟩)) = some x) :
    ∃ x', (loadVar t ⟨r.μ b, o + r.δ b, none⟩).run P w = .ok x' w ∧ VR r x x' := by
  simp only [ld, hb] at hx
  cases hu : P.underlying t with
  | none => simp [hu] at hx
  | some d =>
    have agg : ∀ (hagg : (match d with | .struct _ | .array _ _ => true | _ => false) = true), (match P.info? t with | some i => bif Nat.beq ((c.drop o).take i.size).length i.size then some (Value.agg ⟨(c.drop o).take i.size⟩) else none | none => none) = some x →
        ∃ x', (loadVar t ⟨r.μ b, o + r.δ b, none⟩).run P w = .ok x' w ∧ VR r x x' := fun hagg hx => by
      cases hi : P.info? t with
      | none => simp [hi] at hx
      | some i =>
        rw [hi] at hx
        simp only at hx
        cases hbq : Nat.beq ((c.drop o).take i.size).length i.size with
        | false => rw [hbq] at hx; simp at hx
        | true =>
          rw [hbq] at hx
          simp only [cond_true, Option.some.injEq] at hx
          subst hx
          obtain ⟨xs', h1, h2⟩ := loadCells_rel (P := P) h hb (o := o) (n := i.size) (Nat.eq_of_beq_eq_true hbq)
          refine ⟨.agg ⟨xs'⟩, ?_, .agg h2⟩
          cases d <;> simp at hagg <;> simp [loadVar, isAgg, run_und hu, run_so hi, h1]
    have one : ∀ (hagg : (match d with | .struct _ | .array _ _ => true | _ => false) = false), c[o]? = some x → ∃ x', (loadVar t ⟨r.μ b, o + r.δ b, none⟩).run P w = .ok x' w ∧ VR r x x' := fun hagg hx => by
      obtain ⟨x', h1, h2, _⟩ := h.cells hb hx
      refine ⟨x', ?_, h2⟩
      cases d <;> simp at hagg <;> simp [loadVar, isAgg, run_und hu, go_sem, h1]
    rw [hu] at hx
    cases d <;> first | exact one rfl hx | exact agg rfl hx
theorem ld_sim {r : Ren} {S : St} {w : World} (h : Rel r S w) {t : TypeId} {v v' x : Value} (hv : VR r v v') (hx : ld P S t v = some x) : ∃ x', (Instr.loadAt t v').run P w = .ok x' w ∧ VR r x x' := by
  cases hv with
  | ptr b o hb =>
    cases hg : S.get b with
    | none => simp [ld, hg] at hx
    | some ob =>
      cases ob with
      | cells c e sz =>
        obtain ⟨x', h1, h2⟩ := loadVar_rel (P := P) h hg hx
        exact ⟨x', by simp [Instr.loadAt, Instr.sureAddr, h1], h2⟩
      | _ => simp [ld, hg] at hx
  | sc v hs => cases v <;> simp [ld, scalar] at hx hs; rename_i a; cases a <;> simp [ld] at hx hs
  | _ => simp [ld] at hx
/-- A store. -/
noncomputable def sto (P : Program) (S : St) (t : TypeId) : Value → Value → Option St
  | .pointer (some ⟨b, o, none⟩), x =>
    match S.get b with
    | some (.cells c e sz) =>
      match P.info? t with
      | some i => let xs := x.cells.toList; bif Nat.beq xs.length i.size && xs.all (·.oneCell') && Nat.ble (o + xs.length) c.length then some (S.set b (.cells (spl c o xs) e sz)) else none
      | none => none
    | _ => none
  | _, _ => none
theorem sto_sim {r : Ren} {S S' : St} {w : World} (h : Rel r S w) {t : TypeId} {v v' x x' : Value} (hv : VR r v v') (hx : VR r x x') (hs : sto P S t v x = some S') :
    ∃ w', (Instr.storeAt t v' x').run P w = .ok () w' ∧ Fr r S w r S' w' := by
  cases hv with
  | ptr b o hb =>
    cases hg : S.get b with
    | none => simp [sto, hg] at hs
    | some ob =>
      cases ob with
      | cells c e sz =>
        simp only [sto, hg] at hs
        cases hi : P.info? t with
        | none => simp [hi] at hs
        | some i =>
          rw [hi] at hs
          simp only at hs
          cases hc : (Nat.beq x.cells.toList.length i.size && x.cells.toList.all (·.oneCell') && Nat.ble (o + x.cells.toList.length) c.length) with
          | false => rw [hc] at hs; simp at hs
          | true =>
            rw [hc] at hs
            simp only [cond_true, Option.some.injEq] at hs
            subst hs
            simp only [Bool.and_eq_true] at hc
            obtain ⟨⟨c1, c2⟩, c3⟩ := hc
            have c1 := Nat.eq_of_beq_eq_true c1
            have c3 := Nat.le_of_ble_eq_true c3
            have hxs := hx.cells
            have hl := hxs.length
            have hw := h.write hg hxs (hxs.one c2) c3
            refine ⟨_, ?_, hw⟩
            have hrun := run_storeCells_cells (P := P) (r.μ b) (o + r.δ b) x'.cells.toList 0 w
              (fun j hj => by have := (h.there hg (j := o + j) (by omega)).1; rwa [show o + r.δ b + 0 + j = o + j + r.δ b by omega])
              (fun j hj => by have := (h.there hg (j := o + j) (by omega)).2; rwa [show o + r.δ b + 0 + j = o + j + r.δ b by omega]) (hxs.one c2)
            have hsz : x'.cells.size = i.size := by rw [← Array.length_toList, ← hl]; exact c1
            simp [Instr.storeAt, Instr.sureAddr, storeVar, run_so hi, hsz, hrun]
      | _ => simp [sto, hg] at hs
  | sc v hsc => cases v <;> simp [sto, scalar] at hs hsc; rename_i a; cases a <;> simp [sto] at hs hsc
  | _ => simp [sto] at hs
end
end Go.Proofs.YtcandpiafgicbaaGreatDoor.Ev
