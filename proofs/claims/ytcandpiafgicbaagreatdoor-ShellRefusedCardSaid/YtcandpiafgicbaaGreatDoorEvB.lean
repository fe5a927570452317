/- The evaluator's operations: new things, parts of things, slices. -/
import Derived.Test.YtcandpiafgicbaaGreatDoorEvA
import Derived.Laws.Tables
import Derived.Laws.MakeOwn
import Derived.Great.BuildSlice
namespace Go.Proofs.YtcandpiafgicbaaGreatDoor.Ev
open Go hiding Obj
set_option linter.unusedVariables false
set_option linter.unusedSimpArgs false
set_option linter.unusedSectionVars false
variable [Gl]
theorem heap_new' (w : World) (o : Go.Obj) : (w.alloc o).heap[w.heap.size]? = some o := by show (w.heap.push o)[w.heap.size]? = _; simp
/-- A new row, all of it. -/
theorem Rel.newE {r : Ren} {S : St} {w : World} (h : Rel r S w) {c c' : List Value} (hc : VRs r c c') (h1 : ∀ v ∈ c', v.oneCell' = true) (e : TypeId) (sz : Nat) :
    Fr r S w (r.ext S.next w.heap.size 0 0) (S.new (.cells c e sz)) (w.alloc (.cells ⟨c'⟩ e)) :=
  h.push false (k := 0) rfl (i := S.next) rfl rfl fun r' S' hle hm hd _ => by
    refine ⟨by rw [hm]; exact ⟨_, 0, 0, heap_new' w _, .inl rfl⟩, fun j v hj => ?_, fun ho => ?_, fun _ => ⟨hd, by rw [hm]; unfold World.shape?; rw [heap_new']; simp [hc.length]⟩⟩
    · obtain ⟨v', e1, e2⟩ := hc.get hj
      rw [hm, hd]
      refine ⟨v', ?_, e2.mono hle, h1 v' (List.mem_of_getElem? e1), ?_⟩
      · have := World.cell?_alloc_new w ⟨c'⟩ e j
        simpa using this.trans (by simpa using e1)
      · unfold World.frozen?
        rw [heap_new']
        simp
    · have := h.even
      omega
/-- A new row, with room of an unknown number behind it. -/
theorem Rel.newGr {r : Ren} {S : St} {w : World} (h : Rel r S w) {c c' rest : List Value} (hc : VRs r c c') (h1 : ∀ v ∈ c', v.oneCell' = true) (e : TypeId) {sz K : Nat} (hK : (c' ++ rest).length = K * sz) {fr : Nat × Nat} (hfr : fr = (0, 0) ∨ K * sz ≤ fr.1) :
    Fr r S w (r.ext (S.next + 1) w.heap.size 0 K) (S.newG (.cells c e sz)) (w.alloc (.cells ⟨c' ++ rest⟩ e fr)) :=
  h.push true (k := K) rfl (i := S.next + 1) rfl rfl fun r' S' hle hm hd hk => by
    have hl := hc.length
    have hcell : ∀ j, (w.alloc (.cells ⟨c' ++ rest⟩ e fr)).cell? ⟨w.heap.size, j, none⟩ = (c' ++ rest)[j]? := fun j => by
      unfold World.cell?; rw [heap_new']; simp
    have hfz : ∀ j, j < K * sz → (w.alloc (.cells ⟨c' ++ rest⟩ e fr)).frozen? ⟨w.heap.size, j, none⟩ = false := fun j hj => by
      unfold World.frozen?; rw [heap_new']
      rcases hfr with rfl | hfr
      · simp
      · simp; omega
    have hlen : c'.length ≤ K * sz := by rw [← hK]; simp
    refine ⟨by rw [hm]; exact ⟨_, fr.1, fr.2, heap_new' w _, hfr.imp (fun h => by rw [h]) (fun h => by rw [List.size_toArray, hK]; exact h)⟩, fun j v hj => ?_, fun _ => ⟨by rw [hk, hl]; exact hlen, fun j hj => ?_⟩, fun he => absurd he (by have := h.even; omega)⟩
    · obtain ⟨v', e1, e2⟩ := hc.get hj
      have hj' := (List.getElem?_eq_some_iff.1 e1).1
      rw [hm, hd, Nat.add_zero, hcell, hfz j (by omega)]
      exact ⟨v', by rw [List.getElem?_append_left hj']; exact e1, e2.mono hle, h1 v' (List.mem_of_getElem? e1), rfl⟩
    · rw [hk] at hj
      rw [hm, hd, Nat.add_zero, hcell, hfz j hj, List.getElem?_eq_getElem (by omega)]
      exact ⟨rfl, rfl⟩
theorem Ren.ext_n (r : Ren) (i m d k : Nat) : (r.ext i m d k).n = r.n + 2 := rfl
/-- The address of a new thing. -/
theorem VR.newP {r : Ren} {S : St} {w : World} (h : Rel r S w) (m : Nat) (k : Nat) : VR (r.ext S.next m 0 k) (.pointer (some ⟨S.next, 0, none⟩)) (.pointer (some ⟨m, 0, none⟩)) := by
  have := VR.ptr (r := r.ext S.next m 0 k) S.next 0 (by rw [Ren.ext_n, h.n]; omega)
  simpa using this
theorem VR.newS {r : Ren} {S : St} {w : World} (h : Rel r S w) (m k len cap : Nat) : VR (r.ext S.next m 0 k) (.slice (some ⟨S.next, 0, none⟩) len cap) (.slice (some ⟨m, 0, none⟩) len cap) := by
  have := VR.slE (r := r.ext S.next m 0 k) S.next 0 len cap (by rw [Ren.ext_n, h.n]; omega) h.even
  simpa using this
theorem VR.newO {r : Ren} {S : St} {w : World} (h : Rel r S w) (m d k len : Nat) : VR (r.ext (S.next + 1) m d k) (.slice (some ⟨S.next + 1, 0, none⟩) len 0) (.slice (some ⟨m, d, none⟩) len k) := by
  have := VR.slO (r := r.ext (S.next + 1) m d k) (S.next + 1) 0 len 0 m d (by rw [Ren.ext_n, h.n]; omega) (by have := h.even; omega) (by decide) (.inl (by simp))
  simpa using this
section
variable {P : Program}
noncomputable def zeroOf (P : Program) (t : TypeId) : Option Value := match P.info? t with | some i => i.zero | none => none
theorem run_zeroOf {t : TypeId} {z : Value} (h : zeroOf P t = some z) (w : World) : (zeroValue t).run P w = .ok z w := by
  unfold zeroOf at h
  split at h
  · exact run_zv ‹_› h w
  · cases h
/-- A new variable. -/
noncomputable def alc (S : St) (e : TypeId) (cs : List Value) : Option (Value × St) := bif cs.all (·.oneCell') then some (.pointer (some ⟨S.next, 0, none⟩), S.new (.cells cs e 0)) else none
theorem alc_sim {r : Ren} {S S' : St} {w : World} (h : Rel r S w) {e : TypeId} {v v' x : Value} (hv : VR r v v') (hs : alc S e v.cells.toList = some (x, S')) :
    ∃ r' w' x', (newVar e v').run P w = .ok ⟨w.heap.size, 0, none⟩ w' ∧ x' = .pointer (some ⟨w.heap.size, 0, none⟩) ∧ Fr r S w r' S' w' ∧ VR r' x x' := by
  unfold alc at hs
  cases hc : v.cells.toList.all (·.oneCell') with
  | false => rw [hc] at hs; simp at hs
  | true =>
    rw [hc] at hs
    simp only [cond_true, Option.some.injEq, Prod.mk.injEq] at hs
    obtain ⟨rfl, rfl⟩ := hs
    have hxs := hv.cells
    refine ⟨_, _, _, ?_, rfl, h.newE hxs (hxs.one hc) e 0, VR.newP h _ _⟩
    simp [newVar, newRow, newObj, Sem.run]
theorem alloc_sim {r : Ren} {S S' : St} {w : World} (h : Rel r S w) {e : TypeId} {z x : Value} (hz : zeroOf P e = some z) (hp : plain z = true) (hs : alc S e z.cells.toList = some (x, S')) :
    ∃ r' w' x', (Instr.alloc e true (.tuple #[])).run P w = .ok x' w' ∧ Fr r S w r' S' w' ∧ VR r' x x' := by
  obtain ⟨r', w', x', h1, rfl, h2, h3⟩ := alc_sim (P := P) h (VR.pl hp) hs
  exact ⟨r', w', _, by simp [Instr.alloc, run_zeroOf hz, h1], h2, h3⟩
theorem box_sim {r : Ren} {S S' : St} {w : World} (h : Rel r S w) {e : TypeId} {v v' x : Value} (hv : VR r v v') (hs : alc S e v.cells.toList = some (x, S')) :
    ∃ r' w' x', (Instr.box e v').run P w = .ok x' w' ∧ Fr r S w r' S' w' ∧ VR r' x x' := by
  obtain ⟨r', w', x', h1, rfl, h2, h3⟩ := alc_sim (P := P) h hv hs
  exact ⟨r', w', _, by simp [Instr.box, h1], h2, h3⟩
theorem VRs.set {r : Ren} : ∀ {xs ys : List Value}, VRs r xs ys → ∀ {a b : Value}, VR r a b → ∀ i, VRs r (xs.set i a) (ys.set i b)
  | _, _, .nil, _, _, _, _ => .nil
  | _, _, .cons _ hs, _, _, hab, 0 => .cons hab hs
  | _, _, .cons h hs, _, _, hab, i + 1 => .cons h (VRs.set hs hab i)
inductive PsR (r : Ren) : List (Nat × Value) → List (Nat × Value) → Prop
  | nil : PsR r [] []
  | cons {i : Nat} {v v' : Value} {ps ps'} (h : VR r v v') (hs : PsR r ps ps') : PsR r ((i, v) :: ps) ((i, v') :: ps')
theorem put_rel {r : Ren} (off : Nat) : ∀ {xs ys : List Value}, VRs r xs ys → ∀ (k : Nat) {cs ds : Array Value}, VRs r cs.toList ds.toList →
    VRs r ((xs.zipIdx k).foldl (fun cs (c, j) => cs.setIfInBounds (off + j) c) cs).toList ((ys.zipIdx k).foldl (fun cs (c, j) => cs.setIfInBounds (off + j) c) ds).toList
  | _, _, .nil, k, cs, ds, h => h
  | _, _, .cons hx hs, k, cs, ds, h => by
    simp only [List.zipIdx_cons, List.foldl_cons]
    exact put_rel off hs (k + 1) (by simpa using h.set hx (off + k))
theorem fill_rel {r : Ren} (place : Nat → Option (Nat × Nat)) : ∀ {ps ps' : List (Nat × Value)}, PsR r ps ps' → ∀ {cs ds c1 : Array Value}, VRs r cs.toList ds.toList → Instr.fill place cs ps = some c1 →
    ∃ d1, Instr.fill place ds ps' = some d1 ∧ VRs r c1.toList d1.toList
  | _, _, .nil, cs, ds, c1, h, hf => by
    simp only [Instr.fill, Option.some.injEq] at hf
    subst hf
    exact ⟨ds, rfl, h⟩
  | _, _, .cons (i := i) (v := v) (v' := v') hv hs, cs, ds, c1, h, hf => by
    simp only [Instr.fill] at hf ⊢
    cases hp : place i with
    | none => rw [hp] at hf; simp at hf
    | some os =>
      obtain ⟨off, size⟩ := os
      rw [hp] at hf
      simp only at hf ⊢
      have hvl := hv.cells.length
      have hcl := h.length
      simp only [Array.length_toList] at hvl hcl
      rw [← hvl, ← hcl]
      split at hf
      · cases hf
      · rename_i hn
        rw [if_neg hn]
        refine fill_rel place hs ?_ hf
        have := put_rel (r := r) off hv.cells 0 h
        rw [← Array.foldl_toList, ← Array.foldl_toList, Array.toList_zipIdx, Array.toList_zipIdx]
        exact this
theorem built_rel {r : Ren} {t : TypeId} {ps ps' : List (Nat × Value)} (h : PsR r ps ps') {c1 : Array Value} (hz : ∃ i z, P.info? t = some i ∧ i.zero = some z ∧ plain z = true) (hb : P.built t ps = some c1) : ∃ d1, P.built t ps' = some d1 ∧ VRs r c1.toList d1.toList := by
  obtain ⟨i, z, hi, hz, hp⟩ := hz
  have hzc : VRs r z.cells.toList z.cells.toList := (VR.pl hp).cells
  unfold Program.built at hb ⊢
  rw [hi] at hb ⊢
  cases hu : P.underlying t with
  | none => rw [hu] at hb; simp at hb
  | some d =>
    rw [hu] at hb
    cases d with
    | array n e =>
      simp only [hz] at hb ⊢
      cases hie : P.info? e with
      | none => rw [hie] at hb; simp at hb
      | some ie => rw [hie] at hb; exact fill_rel _ h hzc hb
    | struct fs =>
      simp only [hz] at hb ⊢
      cases hpl : fs.toList.mapM (fun f => (P.info? f.type).map fun i => (f.offset, i.size)) with
      | none => rw [hpl] at hb; simp at hb
      | some pl => rw [hpl] at hb; exact fill_rel _ h hzc hb
    | _ => simp at hb
noncomputable def bld (P : Program) (t : TypeId) (ps : List (Nat × Value)) : Option Value :=
  match zeroOf P t with
  | some z => bif plain z then (match P.built t ps with | some c => some (.agg c) | none => none) else none
  | none => none
theorem bld_sim {r : Ren} {t : TypeId} {ps : List (Nat × Value)} {ps' : Array (Nat × Value)} (h : PsR r ps ps'.toList) {x : Value} (hb : bld P t ps = some x) (w : World) : ∃ x', (Instr.build t ps').run P w = .ok x' w ∧ VR r x x' := by
  unfold bld at hb
  cases hz : zeroOf P t with
  | none => rw [hz] at hb; simp at hb
  | some z =>
    rw [hz] at hb
    cases hp : plain z with
    | false => simp [hp] at hb
    | true =>
      simp only [hp, cond_true] at hb
      cases hc : P.built t ps with
      | none => rw [hc] at hb; simp at hb
      | some c =>
        rw [hc] at hb
        simp only [Option.some.injEq] at hb
        subst hb
        obtain ⟨d1, h1, h2⟩ := built_rel h (by
          unfold zeroOf at hz
          split at hz
          · exact ⟨_, z, ‹_›, hz, hp⟩
          · cases hz) hc
        exact ⟨.agg d1, run_build w t ps' d1 h1, .agg h2⟩
end
end Go.Proofs.YtcandpiafgicbaaGreatDoor.Ev
