/- The evaluator's operations: parts of values, addresses, slices of slices. -/
import Derived.Test.YtcandpiafgicbaaGreatDoorEvB
namespace Go.Proofs.YtcandpiafgicbaaGreatDoor.Ev
open Go hiding Obj
set_option linter.unusedVariables false
set_option linter.unusedSimpArgs false
set_option linter.unusedSectionVars false
variable [Gl]
section
variable {P : Program}
/-- The zero cells of a new row. -/
noncomputable def zrow (z : List Value) (n : Nat) : List Value := match z with
  | [v] => List.replicate n v
  | _ => (List.range n).map fun i => (z[i % z.length]?).getD undef
theorem zrow_eq (z : Array Value) (n : Nat) (h : n ≠ 0 → z.size ≠ 0) : madeCells z n = ⟨zrow z.toList n⟩ := by
  obtain ⟨l⟩ := z
  apply Array.ext'
  have key : ∀ l : List Value, (n ≠ 0 → l.length ≠ 0) → (madeCells ⟨l⟩ n).toList = (List.range n).map fun i => (l[i % l.length]?).getD undef := fun l hl => by
    simp only [madeCells, Array.toList_map, Array.toList_range, List.size_toArray]
    refine List.map_congr_left fun i hi => ?_
    have hi' := List.mem_range.1 hi
    have hpos : 0 < l.length := Nat.pos_of_ne_zero (hl (by omega))
    have hlt : i % l.length < l.length := Nat.mod_lt _ hpos
    simp [getElem!_pos, hlt]
  match l with
  | [v] =>
    rw [key [v] (by simp)]
    simp only [zrow, List.length_cons, List.length_nil, Nat.zero_add, Nat.mod_one]
    apply List.ext_getElem <;> simp
  | [] => rw [key [] (by simpa using h)]; rfl
  | a :: b :: t => rw [key (a :: b :: t) (by simp)]; rfl
noncomputable def bldS (P : Program) (S : St) (t : TypeId) (len : Nat) (ps : List (Nat × Value)) : Option (Value × St) :=
  match P.underlying t with
  | some (.slice e) =>
    match P.info? e with
    | some ie =>
      bif Nat.beq (len * ie.size) 0 then (bif ps.isEmpty then some (.slice (some ⟨S.next, 0, none⟩) len len, S.new (.cells [] e 0)) else none)
      else bif Nat.ble (len * ie.size) 16777216 then
        match ie.zero with
        | some z =>
          bif z.cells.toList.all scalar && !(Nat.beq z.cells.size 0) then
            match Instr.fill (fun i => some (i * ie.size, ie.size)) ⟨zrow z.cells.toList (len * ie.size)⟩ ps with
            | some cs => bif cs.toList.all (·.oneCell') then some (.slice (some ⟨S.next, 0, none⟩) len len, S.new (.cells cs.toList e 0)) else none
            | none => none
          else none
        | none => none
      else none
    | none => none
  | _ => none
theorem VRs.rep {r : Ren} {a b : Value} (h : VR r a b) : ∀ n, VRs r (List.replicate n a) (List.replicate n b)
  | 0 => .nil
  | n + 1 => by simpa [List.replicate_succ] using VRs.cons h (VRs.rep h n)
theorem zrow_sc {r : Ren} {z : List Value} (h : z.all scalar = true) (hne : z ≠ []) (n : Nat) : VRs r (zrow z n) (zrow z n) := by
  refine VRs.sc ?_
  unfold zrow
  split
  · rename_i v
    simp only [List.all_cons, List.all_nil, Bool.and_true] at h
    simp [List.all_replicate, h]
  · rw [List.all_map, List.all_eq_true]
    intro i _
    have hpos : 0 < z.length := List.length_pos_iff.2 hne
    have hlt := Nat.mod_lt i hpos
    simp only [Function.comp, List.getElem?_eq_getElem hlt, Option.getD_some]
    exact List.all_eq_true.1 h _ (List.getElem_mem hlt)
theorem bldS_sim {r : Ren} {S S' : St} {w : World} (h : Rel r S w) {t : TypeId} {len : Nat} {ps : List (Nat × Value)} {ps' : Array (Nat × Value)} (hps : PsR r ps ps'.toList) {x : Value} (hb : bldS P S t len ps = some (x, S')) :
    ∃ r' w' x', (Instr.buildSlice t len ps').run P w = .ok x' w' ∧ Fr r S w r' S' w' ∧ VR r' x x' := by
  unfold bldS at hb
  split at hb
  · rename_i e hu
    cases hie : P.info? e with
    | none => rw [hie] at hb; simp at hb
    | some ie =>
      rw [hie] at hb
      simp only at hb
      cases h0 : Nat.beq (len * ie.size) 0 with
      | true =>
        rw [h0] at hb
        simp only [cond_true] at hb
        cases hem : ps.isEmpty with
        | false => rw [hem] at hb; simp at hb
        | true =>
          rw [hem] at hb
          simp only [cond_true, Option.some.injEq, Prod.mk.injEq] at hb
          obtain ⟨rfl, rfl⟩ := hb
          have hz0 : len * ie.size = 0 := Nat.eq_of_beq_eq_true h0
          obtain rfl : ps = [] := by simpa using hem
          have hps0 : ps'.toList = [] := by
            have : ∀ {l : List (Nat × Value)}, PsR r [] l → l = [] := fun hh => by cases hh; rfl
            exact this hps
          refine ⟨_, _, _, ?_, h.newE (c := []) (c' := []) .nil (by simp) e 0, VR.newS h _ _ _ _⟩
          simp [Instr.buildSlice, run_und hu, run_so hie, hz0, hps0, Instr.fill, newRow, newObj, Sem.run]
          have e0 : Array.map (fun _ : Nat => (default : Value)) (Array.range 0) = ⟨[]⟩ := by simp [Array.range]
          rw [e0]
      | false =>
        rw [h0] at hb
        simp only [cond_false] at hb
        cases hle : Nat.ble (len * ie.size) 16777216 with
        | false => rw [hle] at hb; simp at hb
        | true =>
          rw [hle] at hb
          simp only [cond_true] at hb
          cases hz : ie.zero with
          | none => rw [hz] at hb; simp at hb
          | some z =>
            rw [hz] at hb
            simp only at hb
            cases hc : (z.cells.toList.all scalar && !(Nat.beq z.cells.size 0)) with
            | false => rw [hc] at hb; simp at hb
            | true =>
              rw [hc] at hb
              simp only [cond_true] at hb
              simp only [Bool.and_eq_true, Bool.not_eq_true'] at hc
              obtain ⟨hc1, hc2⟩ := hc
              have hc2 := Nat.ne_of_beq_eq_false hc2
              have hne : z.cells.toList ≠ [] := by
                intro e; apply hc2; rw [← Array.length_toList, e]; rfl
              cases hf : Instr.fill (fun i => some (i * ie.size, ie.size)) ⟨zrow z.cells.toList (len * ie.size)⟩ ps with
              | none => rw [hf] at hb; simp at hb
              | some cs =>
                rw [hf] at hb
                simp only at hb
                cases h1 : cs.toList.all (·.oneCell') with
                | false => rw [h1] at hb; simp at hb
                | true =>
                  rw [h1] at hb
                  simp only [cond_true, Option.some.injEq, Prod.mk.injEq] at hb
                  obtain ⟨rfl, rfl⟩ := hb
                  obtain ⟨d1, g1, g2⟩ := fill_rel _ hps (zrow_sc hc1 hne _) hf
                  refine ⟨_, _, _, ?_, h.newE g2 (g2.one h1) e 0, VR.newS h _ _ _ _⟩
                  refine run_buildSlice w t e len ps' d1 ie z hu hie hz (by have := Nat.le_of_ble_eq_true hle; omega) (by have := Nat.ne_of_beq_eq_false h0; omega) ?_
                  rw [← g1]
                  congr 1
                  exact zrow_eq z.cells _ fun _ => hc2
  · cases hb
/-- make([]T, len, cap). -/
noncomputable def mkS (P : Program) (S : St) (t : TypeId) : Value → Value → Option (Value × St)
  | .int _ (.ofNat l), .int _ (.ofNat c) =>
    match P.underlying t with
    | some (.slice e) =>
      match P.info? e with
      | some ie =>
        bif Nat.ble l c && Nat.ble (ie.bytes * c) 281474976710656 && Nat.ble c 9223372036854775807 then
          match ie.zero with
          | some z => bif z.cells.toList.all scalar && !(Nat.beq z.cells.size 0) then some (.slice (some ⟨S.next, 0, none⟩) l c, S.new (.cells (zrow z.cells.toList (c * ie.size)) e 0)) else none
          | none => none
        else none
      | none => none
    | _ => none
  | _, _ => none
theorem sc_one : ∀ {l : List Value}, l.all scalar = true → ∀ v ∈ l, v.oneCell' = true := fun h v hv => by
  have := List.all_eq_true.1 h v hv
  cases v <;> first | rfl | simp [scalar] at this
theorem zrow_one {z : List Value} (h : z.all scalar = true) (hne : z ≠ []) (n : Nat) : ∀ v ∈ zrow z n, v.oneCell' = true := by
  refine sc_one ?_
  have := zrow_sc (r := ⟨0, id, id, id⟩) h hne n
  unfold zrow at *
  split
  · rename_i v
    simp only [List.all_cons, List.all_nil, Bool.and_true] at h
    simp [List.all_replicate, h]
  · rw [List.all_map, List.all_eq_true]
    intro i _
    have hpos : 0 < z.length := List.length_pos_iff.2 hne
    have hlt := Nat.mod_lt i hpos
    simp only [Function.comp, List.getElem?_eq_getElem hlt, Option.getD_some]
    exact List.all_eq_true.1 h _ (List.getElem_mem hlt)
theorem mkS_sim {r : Ren} {S S' : St} {w : World} (h : Rel r S w) {t : TypeId} {a b x : Value} (hb : mkS P S t a b = some (x, S')) :
    ∃ r' w' x', (Instr.makeSlice t a b).run P w = .ok x' w' ∧ Fr r S w r' S' w' ∧ VR r' x x' := by
  unfold mkS at hb
  split at hb
  · rename_i kl l kc c
    cases hu : P.underlying t with
    | none => rw [hu] at hb; simp at hb
    | some d =>
      rw [hu] at hb
      cases d with
      | slice e =>
        simp only at hb
        cases hie : P.info? e with
        | none => rw [hie] at hb; simp at hb
        | some ie =>
          rw [hie] at hb
          simp only at hb
          cases h0 : (Nat.ble l c && Nat.ble (ie.bytes * c) 281474976710656 && Nat.ble c 9223372036854775807) with
          | false => rw [h0] at hb; simp at hb
          | true =>
            rw [h0] at hb
            simp only [cond_true] at hb
            cases hz : ie.zero with
            | none => rw [hz] at hb; simp at hb
            | some z =>
              rw [hz] at hb
              simp only at hb
              cases hc : (z.cells.toList.all scalar && !(Nat.beq z.cells.size 0)) with
              | false => rw [hc] at hb; simp at hb
              | true =>
                rw [hc] at hb
                simp only [cond_true, Option.some.injEq, Prod.mk.injEq] at hb
                obtain ⟨rfl, rfl⟩ := hb
                simp only [Bool.and_eq_true, Bool.not_eq_true'] at hc h0
                obtain ⟨hc1, hc2⟩ := hc
                obtain ⟨⟨g1, g2⟩, g3⟩ := h0
                have hc2 := Nat.ne_of_beq_eq_false hc2
                have g1 := Nat.le_of_ble_eq_true g1
                have g2 := Nat.le_of_ble_eq_true g2
                have g3 := Nat.le_of_ble_eq_true g3
                have hne : z.cells.toList ≠ [] := by
                  intro e; apply hc2; rw [← Array.length_toList, e]; rfl
                have hrun := run_make (P := P) w t e ie z hu hie hz kl kc (l : Int) (c : Int) (by omega) (by omega) (by rw [← Int.natCast_mul]; omega) (by omega)
                refine ⟨_, _, _, ?_, h.newE (zrow_sc hc1 hne _) (zrow_one hc1 hne _) e 0, VR.newS h _ _ _ _⟩
                have hrun' := hrun
                simp only [Int.toNat_natCast] at hrun'
                rw [zrow_eq z.cells _ fun _ => hc2] at hrun'
                exact hrun'
      | _ => simp at hb
  · cases hb
/-- A part of a struct or an array. -/
noncomputable def prt (P : Program) (t : TypeId) (cs : List Value) (o : Nat) : Option Value :=
  match P.underlying t with
  | some (.struct _) | some (.array _ _) =>
    match P.info? t with
    | some i => some (.agg ⟨(cs.drop o).take i.size⟩)
    | none => none
  | some _ => cs[o]?
  | none => none
theorem prt_sim {r : Ren} {t : TypeId} {cs cs' : List Value} (h : VRs r cs cs') {o : Nat} {x : Value} (hb : prt P t cs o = some x) (w : World) : ∃ x', (part t ⟨cs'⟩ o).run P w = .ok x' w ∧ VR r x x' := by
  unfold prt at hb
  cases hu : P.underlying t with
  | none => rw [hu] at hb; simp at hb
  | some d =>
    rw [hu] at hb
    have agg : ∀ (hagg : (match d with | .struct _ | .array _ _ => true | _ => false) = true), (match P.info? t with | some i => some (Value.agg ⟨(cs.drop o).take i.size⟩) | none => none) = some x →
        ∃ x', (part t ⟨cs'⟩ o).run P w = .ok x' w ∧ VR r x x' := fun hagg hx => by
      cases hi : P.info? t with
      | none => rw [hi] at hx; simp at hx
      | some i =>
        rw [hi] at hx
        simp only [Option.some.injEq] at hx
        subst hx
        refine ⟨_, ?_, .agg ((h.drop o).take i.size)⟩
        cases d <;> simp at hagg <;> simp [part, isAgg, run_und hu, run_so hi, List.extract_eq_take_drop]
    have one : ∀ (hagg : (match d with | .struct _ | .array _ _ => true | _ => false) = false), cs[o]? = some x → ∃ x', (part t ⟨cs'⟩ o).run P w = .ok x' w ∧ VR r x x' := fun hagg hx => by
      obtain ⟨x', h1, h2⟩ := h.get hx
      refine ⟨x', ?_, h2⟩
      cases d <;> simp at hagg <;> simp [part, isAgg, run_und hu, h1]
    cases d <;> first | exact one rfl hb | exact agg rfl hb
/-- x.f of a value. -/
noncomputable def fld (P : Program) (t : TypeId) (x : Value) (f : Nat) : Option Value :=
  match P.underlying t, x with
  | some (.struct fs), .agg cs => match fs[f]? with
    | some f => prt P f.type cs.toList f.offset
    | none => none
  | _, _ => none
theorem fld_sim {r : Ren} {t : TypeId} {v v' x : Value} (h : VR r v v') {f : Nat} (hb : fld P t v f = some x) (w : World) : ∃ x', (Instr.field t v' f).run P w = .ok x' w ∧ VR r x x' := by
  unfold fld at hb
  split at hb
  · rename_i fs cs hu
    cases h with
    | sc v h => simp [scalar] at h
    | agg h =>
      rename_i xs xs'
      cases hf : fs[f]? with
      | none => rw [hf] at hb; simp at hb
      | some fl =>
        rw [hf] at hb
        obtain ⟨x', h1, h2⟩ := prt_sim (P := P) h hb w
        exact ⟨x', by simp [Instr.field, run_und hu, hf, asAgg, h1], h2⟩
  · cases hb
/-- x[i] of an array's value. -/
noncomputable def idx (P : Program) (t : TypeId) (x i : Value) : Option Value :=
  match P.underlying t, x, i with
  | some (.array n e), .agg cs, .int _ (.ofNat i) => match P.info? e with
    | some ie => bif Nat.blt i n then prt P e cs.toList (i * ie.size) else none
    | none => none
  | _, _, _ => none
theorem idx_sim {r : Ren} {t : TypeId} {v v' i x : Value} (h : VR r v v') (hb : idx P t v i = some x) (w : World) : ∃ x', (Instr.index t v' i).run P w = .ok x' w ∧ VR r x x' := by
  unfold idx at hb
  split at hb
  · rename_i n e cs k i hu
    cases h with
    | sc v h => simp [scalar] at h
    | agg h =>
      rename_i xs xs'
      cases hf : P.info? e with
      | none => rw [hf] at hb; simp at hb
      | some ie =>
        rw [hf] at hb
        simp only at hb
        cases hlt : Nat.blt i n with
        | false => rw [hlt] at hb; simp at hb
        | true =>
          rw [hlt] at hb
          obtain ⟨x', h1, h2⟩ := prt_sim (P := P) h hb w
          have hlt' : i < n := by simpa [Nat.blt_eq] using hlt
          refine ⟨x', ?_, h2⟩
          simp [Instr.index, asIntOf, run_und hu, hlt', run_so hf, h1]
  · cases hb
/-- &x.f -/
noncomputable def fla (P : Program) (s : TypeId) (x : Value) (f : Nat) : Option Value :=
  match x with
  | .pointer (some ⟨b, o, none⟩) =>
    match P.underlying s with
    | some (.struct fs) => match fs[f]? with
      | some f => match P.info? f.type with
        | some i => bif Nat.beq i.size 0 then none else some (.pointer (some ⟨b, o + f.offset, none⟩))
        | none => none
      | none => none
    | _ => none
  | _ => none
theorem add_eq (b o n : Nat) : (⟨b, o, none⟩ : Addr).add n = ⟨b, o + n, none⟩ := by
  unfold Addr.add
  split
  · rename_i e; subst e; rfl
  · rfl
theorem fla_sim {r : Ren} {s : TypeId} {v v' x : Value} (h : VR r v v') {f : Nat} (hb : fla P s v f = some x) (w : World) : ∃ x', (Instr.fieldAt s v' f).run P w = .ok x' w ∧ VR r x x' := by
  unfold fla at hb
  split at hb
  · rename_i b o
    cases h with
    | sc v h => simp [scalar] at h
    | ptr _ _ hn =>
      cases hu : P.underlying s with
      | none => rw [hu] at hb; simp at hb
      | some d =>
        rw [hu] at hb
        cases d with
        | struct fs =>
          simp only at hb
          cases hf : fs[f]? with
          | none => rw [hf] at hb; simp at hb
          | some fl =>
            rw [hf] at hb
            simp only at hb
            cases hi : P.info? fl.type with
            | none => rw [hi] at hb; simp at hb
            | some i =>
              rw [hi] at hb
              simp only at hb
              cases h0 : Nat.beq i.size 0 with
              | true => rw [h0] at hb; simp at hb
              | false =>
                rw [h0] at hb
                simp only [cond_false, Option.some.injEq] at hb
                subst hb
                have h0 := Nat.ne_of_beq_eq_false h0
                refine ⟨.pointer (some ⟨r.μ b, o + r.δ b + fl.offset, none⟩), ?_, ?_⟩
                · simp [Instr.fieldAt, run_und hu, hf, Instr.sureAddr, fieldPlace, run_so hi, h0, add_eq]
                · rw [show o + r.δ b + fl.offset = o + fl.offset + r.δ b by omega]
                  exact .ptr b _ hn
        | _ => simp at hb
  · cases hb
/-- &x[i] -/
noncomputable def ixa (P : Program) (t : TypeId) (x i : Value) : Option Value :=
  match i with
  | .int _ (.ofNat i) =>
    match P.underlying t, x with
    | some (.array n e), .pointer (some ⟨b, o, none⟩) => match P.info? e with
      | some ie => bif Nat.blt i n then some (.pointer (some ⟨b, o + i * ie.size, none⟩)) else none
      | none => none
    | some (.slice e), .slice (some ⟨b, o, none⟩) n _ => match P.info? e with
      | some ie => bif Nat.blt i n then some (.pointer (some ⟨b, o + i * ie.size, none⟩)) else none
      | none => none
    | _, _ => none
  | _ => none
theorem ixa_sim {r : Ren} {t : TypeId} {v v' i x : Value} (h : VR r v v') (hb : ixa P t v i = some x) (w : World) : ∃ x', (Instr.indexAt t v' i).run P w = .ok x' w ∧ VR r x x' := by
  unfold ixa at hb
  split at hb
  · rename_i k i
    have hi : ∀ {n : Nat}, Nat.blt i n = true → i < n := fun hlt => by simpa [Nat.blt_eq] using hlt
    split at hb
    · rename_i n e b o hu
      cases hf : P.info? e with
      | none => rw [hf] at hb; simp at hb
      | some ie =>
        rw [hf] at hb
        simp only at hb
        cases hlt : Nat.blt i n with
        | false => rw [hlt] at hb; simp at hb
        | true =>
          rw [hlt] at hb
          simp only [cond_true, Option.some.injEq] at hb
          subst hb
          cases h with
          | sc v h => simp [scalar] at h
          | ptr _ _ hn =>
            refine ⟨.pointer (some ⟨r.μ b, o + r.δ b + i * ie.size, none⟩), ?_, ?_⟩
            · simp [Instr.indexAt, asIntOf, run_und hu, Instr.sureAddr, hi hlt, run_so hf, add_eq]
            · rw [show o + r.δ b + i * ie.size = o + i * ie.size + r.δ b by omega]
              exact .ptr b _ hn
    · rename_i e b o n cap hu
      cases hf : P.info? e with
      | none => rw [hf] at hb; simp at hb
      | some ie =>
        rw [hf] at hb
        simp only at hb
        cases hlt : Nat.blt i n with
        | false => rw [hlt] at hb; simp at hb
        | true =>
          rw [hlt] at hb
          simp only [cond_true, Option.some.injEq] at hb
          subst hb
          have hlt' := hi hlt
          have key : ∀ cap', ∃ x', (Instr.indexAt t (.slice (some ⟨r.μ b, o + r.δ b, none⟩) n cap') (.int k (Int.ofNat i))).run P w = .ok x' w ∧ (b < r.n → VR r (.pointer (some ⟨b, o + i * ie.size, none⟩)) x') := fun cap' => by
            refine ⟨.pointer (some ⟨r.μ b, o + r.δ b + i * ie.size, none⟩), ?_, fun hn => ?_⟩
            · simp [Instr.indexAt, asIntOf, run_und hu, hi hlt, run_so hf, add_eq]
            · rw [show o + r.δ b + i * ie.size = o + i * ie.size + r.δ b by omega]
              exact .ptr b _ hn
          cases h with
          | sc v h => simp [scalar] at h
          | slE _ _ _ _ hn _ => obtain ⟨x', h1, h2⟩ := key cap; exact ⟨x', h1, h2 hn⟩
          | slO _ _ _ _ _ _ hn _ _ ha =>
            obtain ⟨rfl, rfl⟩ : _ ∧ _ := ha.resolve_right (by omega)
            obtain ⟨x', h1, h2⟩ := key (r.κ b - cap); exact ⟨x', h1, h2 hn⟩
          | slK _ _ _ k' _ _ hn _ ha =>
            obtain ⟨rfl, rfl⟩ : _ ∧ _ := ha.resolve_right (by omega)
            obtain ⟨x', h1, h2⟩ := key k'; exact ⟨x', h1, h2 hn⟩
    · cases hb
  · cases hb
end
end Go.Proofs.YtcandpiafgicbaaGreatDoor.Ev
