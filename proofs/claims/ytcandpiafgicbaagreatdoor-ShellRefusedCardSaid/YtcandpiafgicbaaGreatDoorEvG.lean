/- The evaluator's operations: copy, clear, strings and bytes. -/
import Derived.Test.YtcandpiafgicbaaGreatDoorEvF
import Derived.Laws.IdiomStrings
import Derived.Laws.BytesString
namespace Go.Proofs.YtcandpiafgicbaaGreatDoor.Ev
open Go hiding Obj
set_option linter.unusedVariables false
set_option linter.unusedSimpArgs false
set_option linter.unusedSectionVars false
variable [Gl]
section
variable {P : Program}
/-- Writing 'xs' from a slice's beginning on. -/
noncomputable def putS (S : St) (base : Option Addr) (len : Nat) (xs : List Value) : Option St :=
  match xs, base with
  | [], _ => some S
  | _ :: _, some ⟨b, o, none⟩ =>
    match S.get b with
    | some (.cells c e sz) => bif Nat.ble (o + xs.length) c.length && !(Nat.beq len 0) then some (S.set b (.cells (spl c o xs) e sz)) else none
    | _ => none
  | _, _ => none
theorem putS_sim {r : Ren} {S S' : St} {w : World} (hr : Rel r S w) {base : Option Addr} {len cap : Nat} {s' : Value} (hv : VR r (.slice base len cap) s') {xs xs' : List Value} (hx : VRs r xs xs') (h1 : ∀ v ∈ xs', v.oneCell' = true) (hb : putS S base len xs = some S') :
    ∃ base' cap' w', s' = .slice base' len cap' ∧ (match base' with | some a => storeCells a xs' | none => pure () : Sem Unit).run P w = .ok () w' ∧ Fr r S w r S' w' := by
  have hl := hx.length
  cases xs with
  | nil =>
    cases hx
    simp only [putS, Option.some.injEq] at hb
    subst hb
    cases hv with
    | sc v h => cases base with
      | none => exact ⟨none, cap, w, rfl, by simp, Fr.refl hr⟩
      | some a => simp [scalar] at h
    | slE b o _ _ h he => exact ⟨_, _, w, rfl, by simp [storeCells], Fr.refl hr⟩
    | slO => exact ⟨_, _, w, rfl, by simp [storeCells], Fr.refl hr⟩
    | slK => exact ⟨_, _, w, rfl, by simp [storeCells], Fr.refl hr⟩
  | cons a t =>
    have key : ∀ b o cap', base = some ⟨b, o, none⟩ → s' = .slice (some ⟨r.μ b, o + r.δ b, none⟩) len cap' → ∃ base' cap' w', s' = .slice base' len cap' ∧ (match base' with | some a => storeCells a xs' | none => pure () : Sem Unit).run P w = .ok () w' ∧ Fr r S w r S' w' := by
      rintro b o cap' rfl rfl
      simp only [putS] at hb
      split at hb
      · rename_i c e sz hg
        cases hc : (Nat.ble (o + (a :: t).length) c.length && !(Nat.beq len 0)) with
        | false => rw [hc] at hb; simp at hb
        | true =>
          rw [hc] at hb
          simp only [cond_true, Option.some.injEq] at hb
          subst hb
          simp only [Bool.and_eq_true] at hc
          have hc := ble0 hc.1
          have hrun := run_storeCells_cells (P := P) (r.μ b) (o + r.δ b) xs' 0 w
            (fun j hj => by have := (hr.there hg (j := o + j) (by omega)).1; rwa [show o + r.δ b + 0 + j = o + j + r.δ b by omega])
            (fun j hj => by have := (hr.there hg (j := o + j) (by omega)).2; rwa [show o + r.δ b + 0 + j = o + j + r.δ b by omega]) h1
          exact ⟨_, _, _, rfl, hrun, hr.write hg hx h1 hc⟩
      · cases hb
    have hl0 : ∀ b o, base = some ⟨b, o, none⟩ → len ≠ 0 := by
      rintro b o rfl rfl
      simp only [putS] at hb
      split at hb
      · simp at hb
      · cases hb
    cases hv with
    | sc v h => cases base with
      | none => simp [putS] at hb
      | some a => simp [scalar] at h
    | slE b o _ _ h he => exact key b o _ rfl rfl
    | slO b o _ _ _ _ h _ _ ha =>
      have := hl0 b o rfl
      obtain ⟨rfl, rfl⟩ : _ ∧ _ := ha.resolve_right (by omega)
      exact key b o _ rfl rfl
    | slK b o _ _ _ _ h _ ha =>
      have := hl0 b o rfl
      obtain ⟨rfl, rfl⟩ : _ ∧ _ := ha.resolve_right (by omega)
      exact key b o _ rfl rfl
/-- copy(dst, src) -/
noncomputable def cpy (P : Program) (S : St) (td tx : TypeId) (d x : Value) : Option (Value × St) :=
  match P.underlying td, d with
  | some (.slice e), .slice base dLen _ =>
    match P.info? e with
    | some ie =>
      match (match x with
        | .slice a n c => srcC P S ie.size tx (.slice a (Nat.min n dLen) c)
        | .string s => bif Nat.ble s.size dLen then srcC P S ie.size tx x else none
        | _ => none) with
      | some (n, xs) => match putS S base dLen xs with
        | some S' => some (goInt n, S')
        | none => none
      | none => none
    | none => none
  | _, _ => none
theorem cpy_sim {r : Ren} {S S' : St} {w : World} (hr : Rel r S w) {td tx ty : TypeId} {d d' x x' v : Value} (hd : VR r d d') (hx : VR r x x') (hb : cpy P S td tx d x = some (v, S')) :
    ∃ w', (Builtin.copy_ #[td, tx] ty #[d', x']).run P w = .ok v w' ∧ Fr r S w r S' w' ∧ plain v = true := by
  unfold cpy at hb
  split at hb
  case h_2 => cases hb
  rename_i e base dLen dCap hu
  split at hb
  case h_2 => cases hb
  rename_i ie hi
  have src : ∀ n xs, (match x with
        | .slice a n c => srcC P S ie.size tx (.slice a (Nat.min n dLen) c)
        | .string s => bif Nat.ble s.size dLen then srcC P S ie.size tx x else none
        | _ => none) = some (n, xs) → ∃ m xs', (Builtin.lenOf x').run P w = .ok m w ∧ Nat.min m dLen = n ∧ (Builtin.firstCells ie.size n x').run P w = .ok xs'.toArray w ∧ VRs r xs xs' ∧ (∀ v ∈ xs', v.oneCell' = true) := by
    intro n xs hs
    split at hs
    · rename_i a k c
      have go : ∀ a' c', x' = .slice a' k c' → VR r (.slice a (Nat.min k dLen) c) (.slice a' (Nat.min k dLen) c') → ∃ m xs', (Builtin.lenOf x').run P w = .ok m w ∧ Nat.min m dLen = n ∧ (Builtin.firstCells ie.size n x').run P w = .ok xs'.toArray w ∧ VRs r xs xs' ∧ (∀ v ∈ xs', v.oneCell' = true) := by
        rintro a' c' rfl hvr
        obtain ⟨xs', q1, q2⟩ := srcC_sim hr hvr hs
        have hn : Nat.min k dLen = n := by
          have := q1.len w
          simpa [Builtin.lenOf] using this
        refine ⟨k, xs', by simp [Builtin.lenOf], hn, ?_, q2, q1.one⟩
        have := q1.cells
        cases a' <;> simpa [Builtin.firstCells] using this
      cases hx with
      | sc v h => cases a with
        | none => exact go none c rfl (.sc _ rfl)
        | some a => simp [scalar] at h
      | slE b o _ _ h he => exact go _ _ rfl (.slE b o _ _ h he)
      | slO b o _ _ m d h ho he ha => exact go _ _ rfl (.slO b o _ _ m d h ho he (ha.imp id fun ⟨h1, h2⟩ => ⟨by subst h1; exact Nat.zero_min _, h2⟩))
      | slK b o _ _ m d h ho ha => exact go _ _ rfl (.slK b o _ _ m d h ho (ha.imp id fun ⟨h1, h2⟩ => ⟨by subst h1; exact Nat.zero_min _, h2⟩))
    · rename_i s
      cases hc : Nat.ble s.size dLen with
      | false => rw [hc] at hs; simp at hs
      | true =>
        rw [hc] at hs
        obtain ⟨xs', q1, q2⟩ := srcC_sim hr hx hs
        cases hx with
        | sc v h =>
          have hn : s.size = n := by
            have := q1.len w
            simpa [Builtin.lenOf] using this
          exact ⟨s.size, xs', by simp [Builtin.lenOf], by rw [hn] at hc ⊢; exact Nat.min_eq_left (ble0 hc), q1.cells, q2, q1.one⟩
    · cases hs
  split at hb
  case h_2 => cases hb
  rename_i n xs hs
  obtain ⟨m, xs', s1, s2, s3, s4, s5⟩ := src n xs hs
  split at hb
  case h_2 => cases hb
  rename_i S2 hp
  simp only [Option.some.injEq, Prod.mk.injEq] at hb
  obtain ⟨rfl, rfl⟩ := hb
  obtain ⟨base', cap', w', rfl, p2, p3⟩ := putS_sim (P := P) hr hd s4 s5 hp
  refine ⟨w', ?_, p3, rfl⟩
  cases base' with
  | none =>
    simp only [Sem.run_pure, Result.ok.injEq, true_and] at p2
    subst p2
    simp [Builtin.copy_, run_und hu, run_so hi, s1, s2, s3]
  | some a =>
    simp only at p2
    simp [Builtin.copy_, run_und hu, run_so hi, s1, s2, s3, p2]
/-- clear(x) -/
noncomputable def clr (P : Program) (S : St) (t : TypeId) (x : Value) : Option St :=
  match P.underlying t, x with
  | some (.slice e), .slice base n _ =>
    bif Nat.beq n 0 then some S else
    match zeroOf P e with
    | some z => bif z.cells.toList.all scalar && !(Nat.beq z.cells.size 0) then putS S base n (zrow z.cells.toList (n * z.cells.size)) else none
    | none => none
  | _, _ => none
theorem clr_sim {r : Ren} {S S' : St} {w : World} (hr : Rel r S w) {t ty : TypeId} {x x' : Value} (hx : VR r x x') (hb : clr P S t x = some S') :
    ∃ w', (Builtin.clear_ #[t] ty #[x']).run P w = .ok (.tuple #[]) w' ∧ Fr r S w r S' w' := by
  unfold clr at hb
  split at hb
  case h_2 => cases hb
  rename_i e base n cap hu
  cases hn : Nat.beq n 0 with
  | true =>
    rw [hn] at hb
    simp only [cond_true, Option.some.injEq] at hb
    subst hb
    obtain rfl := beq0 hn
    refine ⟨w, ?_, Fr.refl hr⟩
    cases hx with
    | sc v h => cases base with
      | none => simp [Builtin.clear_, run_und hu]
      | some a => simp [scalar] at h
    | slE b o _ _ h he => simp [Builtin.clear_, run_und hu]
    | slO => simp [Builtin.clear_, run_und hu]
    | slK => simp [Builtin.clear_, run_und hu]
  | false =>
    rw [hn] at hb
    simp only [cond_false] at hb
    split at hb
    case h_2 => cases hb
    rename_i z hz
    cases hc : (z.cells.toList.all scalar && !(Nat.beq z.cells.size 0)) with
    | false => rw [hc] at hb; simp at hb
    | true =>
      rw [hc] at hb
      simp only [cond_true] at hb
      simp only [Bool.and_eq_true, Bool.not_eq_true'] at hc
      obtain ⟨hc1, hc2⟩ := hc
      have hc2 := nbeq0 hc2
      have hne : z.cells.toList ≠ [] := by
        intro e; apply hc2; rw [← Array.length_toList, e]; rfl
      obtain ⟨base', cap', w', rfl, p2, p3⟩ := putS_sim (P := P) hr hx (zrow_sc hc1 hne _) (zrow_one hc1 hne _) hb
      refine ⟨w', ?_, p3⟩
      have hnz := nbeq0 hn
      have hzc : (Builtin.zeroCells z.cells n).toList = zrow z.cells.toList (n * z.cells.size) := by
        have := zrow_eq z.cells (n * z.cells.size) fun _ => hc2
        have h2 := congrArg Array.toList this
        exact h2
      cases base' with
      | none =>
        simp only [Sem.run_pure, Result.ok.injEq, true_and] at p2
        subst p2
        simp [Builtin.clear_, run_und hu]
      | some a =>
        simp only at p2
        obtain ⟨k, rfl⟩ : ∃ k, n = k + 1 := ⟨n - 1, by omega⟩
        simp [Builtin.clear_, run_und hu, run_zeroOf hz, hzc, p2]
/-- A mark behind a row's cells. -/
theorem mark_sim {r : Ren} {S : St} {w : World} (h : Rel r S w) {b : Nat} {c : List Value} {e : TypeId} {sz : Nat} (hb : S.get b = some (.cells c e sz)) (o : Nat) :
    ∃ w', (markStringish ⟨r.μ b, o, none⟩).run P w = .ok () w' ∧ Fr r S w r S w' := by
  obtain ⟨hbn, hmk, hcs, hodd, heven⟩ := h.objs b _ hb
  obtain ⟨C, lo, hi, h1, h2⟩ := hmk
  have hsh : w.shape? (r.μ b) = some (e, C.size) := by unfold World.shape?; rw [h1]
  have hrun : (markStringish ⟨r.μ b, o, none⟩).run P w = .ok () (w.freeze ⟨r.μ b, C.size, none⟩ 1) := by simp [markStringish, hsh]
  have hfz : ∃ lo' hi', C.size ≤ lo' ∧ ∀ k, (w.freeze ⟨r.μ b, C.size, none⟩ 1).heap[k]? = if k = r.μ b then some (.cells C e (lo', hi')) else w.heap[k]? := by
    refine ⟨(if lo == hi then (C.size, C.size + 1) else (min lo C.size, max hi (C.size + 1))).1, (if lo == hi then (C.size, C.size + 1) else (min lo C.size, max hi (C.size + 1))).2, ?_, fun k => ?_⟩
    · split
      · exact Nat.le_refl _
      · rename_i hne
        have : C.size ≤ lo := h2.resolve_left (by simpa using hne)
        show C.size ≤ min lo C.size
        omega
    · unfold World.freeze
      rw [if_neg (by decide)]
      simp only [Array.getElem?_modify]
      by_cases hk : r.μ b = k
      · subst hk
        rw [if_pos rfl, if_pos rfl, h1]
        rfl
      · rw [if_neg hk, if_neg (fun e => hk e.symm)]
  have hrest : (w.freeze ⟨r.μ b, C.size, none⟩ 1).heap.size = w.heap.size ∧ (w.freeze ⟨r.μ b, C.size, none⟩ 1).os = w.os ∧ (w.freeze ⟨r.μ b, C.size, none⟩ 1).tape = w.tape ∧ (w.freeze ⟨r.μ b, C.size, none⟩ 1).output = w.output := by
    unfold World.freeze
    rw [if_neg (by decide)]
    exact ⟨by simp, rfl, rfl, rfl⟩
  refine ⟨_, hrun, ?_⟩
  generalize w.freeze ⟨r.μ b, C.size, none⟩ 1 = w' at hfz hrest
  obtain ⟨lo', hi', g1, g2⟩ := hfz
  obtain ⟨s1, s2, s3, s4⟩ := hrest
  have hcell : ∀ k, w'.cell? ⟨r.μ b, k, none⟩ = w.cell? ⟨r.μ b, k, none⟩ := fun k => by
    unfold World.cell?
    rw [g2, if_pos rfl, h1]
  have hfro : ∀ k, (w.cell? ⟨r.μ b, k, none⟩).isSome = true → w'.frozen? ⟨r.μ b, k, none⟩ = false := fun k hk => by
    unfold World.cell? at hk
    rw [h1] at hk
    have hk : k < C.size := by simpa using hk
    unfold World.frozen?
    rw [g2, if_pos rfl]
    simp
    omega
  have hown : Owned r S (r.μ b) := ⟨b, _, hb, rfl, rfl⟩
  have hold : ∀ k, k ≠ r.μ b → w'.heap[k]? = w.heap[k]? := fun k hk => by rw [g2, if_neg hk]
  refine Fr.mk' h r.le_refl h.n h.even (by omega) (fun i o hi => ?_) (fun k _ hno => hold k fun e => hno (e ▸ hown)) s2 s3 s4
  by_cases hib : i = b
  · subst hib
    rw [hb] at hi
    injection hi with hi
    subst hi
    refine .inr ⟨hbn, ⟨⟨C, lo', hi', by rw [g2, if_pos rfl], .inr g1⟩, fun j v hj => ?_, fun ho => ⟨(hodd ho).1, fun j hj => ?_⟩, fun he => ⟨(heven he).1, by unfold World.shape?; rw [g2, if_pos rfl]; rw [← (heven he).2, hsh]⟩⟩, fun _ => ⟨.inl hown, fun j oj hj hgj hoj e => hj (h.inj _ _ _ _ hgj hb hoj rfl e)⟩⟩
    · obtain ⟨v', e1, e2, e3, _⟩ := hcs j v hj
      exact ⟨v', by rw [hcell]; exact e1, e2, e3, hfro _ (by rw [e1]; rfl)⟩
    · have := ((hodd ho).2 j hj).1
      exact ⟨by rw [hcell]; exact this, hfro _ this⟩
  · exact .inl ⟨hi, fun ho => hold _ fun e => hib (h.inj _ _ _ _ hi hb ho rfl e)⟩
/-- []byte(s), string(b) -/
noncomputable def strC (cs : List Value) (acc : ByteArray) : Option ByteArray :=
  match cs with
  | [] => some acc
  | .int .u8 n :: t => strC t (acc.push (UInt8.ofNat n.toNat))
  | _ => none
noncomputable def cvt (P : Program) (S : St) (src dst : TypeId) (x : Value) : Option (Value × St) :=
  match P.underlying src, P.underlying dst, x with
  | some .string, some (.slice e), .string s =>
    match P.underlying e with
    | some (.int .u8) => some (.slice (some ⟨S.next + 1, 0, none⟩) s.size 0, S.newG (.cells (byteCells s) e 1))
    | _ => none
  | some (.slice e), some .string, .slice (some ⟨b, o, none⟩) n _ =>
    match P.underlying e with
    | some (.int .u8) =>
      bif Nat.beq n 0 then some (.string .empty, S) else
      match S.get b with
      | some (.cells c _ _) => let xs := (c.drop o).take n; bif Nat.beq xs.length n then (match strC xs .empty with | some s => some (.string s, S) | none => none) else none
      | _ => none
    | _ => none
  | some (.slice _), some (.slice e), .slice (some ⟨b, o, none⟩) n c =>
    match P.underlying e with
    | some (.int .u8) => bif Nat.beq src dst && Nat.beq (b % 2) 0 then (match S.get b with | some (.cells _ _ _) => some (.slice (some ⟨b, o, none⟩) n c, S) | _ => none) else none
    | _ => none
  | _, _, _ => none
theorem strC_spec : ∀ {cs : List Value} {acc s : ByteArray}, strC cs acc = some s → ∃ ns : List Int, cs = ns.map (Value.int .u8) ∧ s = ns.foldl (fun r n => r.push (UInt8.ofNat n.toNat)) acc
  | [], acc, s, h => by
    simp only [strC, Option.some.injEq] at h
    exact ⟨[], rfl, h.symm⟩
  | v :: t, acc, s, h => by
    unfold strC at h
    split at h
    · rename_i e; cases e
    · rename_i n t' e
      injection e with e1 e2
      subst e1 e2
      obtain ⟨ns, h1, h2⟩ := strC_spec h
      exact ⟨n :: ns, by simp [h1], by simpa using h2⟩
    · cases h
theorem cvt_sim {r : Ren} {S S' : St} {w : World} (hr : Rel r S w) {src dst : TypeId} {x x' v : Value} (hx : VR r x x') (hb : cvt P S src dst x = some (v, S')) :
    ∃ r' w' v', (convert src dst x').run P w = .ok v' w' ∧ Fr r S w r' S' w' ∧ VR r' v v' := by
  unfold cvt at hb
  split at hb
  · rename_i e s hs hd
    split at hb
    case h_2 => cases hb
    rename_i he
    simp only [Option.some.injEq, Prod.mk.injEq] at hb
    obtain ⟨rfl, rfl⟩ := hb
    cases hx with
    | sc _ hsc =>
      have hrun := run_bytes_of_string w src dst e s hs hd he
      have hcl := cap_le w s.size 0 e
      generalize hG : grownCap w s.size 0 e = G at hcl hrun
      have hd := Fr.drew hr
      have hrow : bytesRow s G = ⟨byteCells s ++ List.replicate (G - s.size) (.int .u8 0)⟩ := by
        apply Array.ext'
        simp [bytesRow, byteCells]
      have hlen : (byteCells s ++ List.replicate (G - s.size) (Value.int .u8 0)).length = G * 1 := by
        rw [List.length_append, byteCells_length, List.length_replicate]; omega
      have hp := hd.rel.newGr (VRs.sc (byteCells_sc s)) (rest := List.replicate (G - s.size) (.int .u8 0)) (sc_one (byteCells_sc s)) e (sz := 1) (K := G) hlen (fr := (G, G + 1)) (.inr (by simp))
      refine ⟨_, _, _, hrun, ?_, VR.newO hr _ _ _ _⟩
      rw [hrow]
      have hsz : (⟨byteCells s ++ List.replicate (G - s.size) (Value.int .u8 0)⟩ : Array Value).size = G := by
        rw [List.size_toArray, hlen, Nat.mul_one]
      rw [hsz]
      exact hd.trans hp
  · rename_i e b o n cap hs hd
    split at hb
    case h_2 => cases hb
    rename_i he
    have fin : ∀ m o' cap' (ns : List Int), (loadCells ⟨m, o', none⟩ n).run P w = .ok (ns.map (Value.int .u8)).toArray w → v = .string (ns.foldl (fun r n => r.push (UInt8.ofNat n.toNat)) ByteArray.empty) →
        (convert src dst (.slice (some ⟨m, o', none⟩) n cap')).run P w = .ok v w := fun m o' cap' ns hl hv => by
      rw [run_convert_bytes_string w src dst e _ n cap' hs he hd, run_bytesToString w _ n cap' ns hl, hv]
    have key : S' = S ∧ plain v = true ∧ ((n = 0 ∧ v = .string ByteArray.empty) ∨ (n ≠ 0 ∧ ∃ ns : List Int, (loadCells ⟨r.μ b, o + r.δ b, none⟩ n).run P w = .ok (ns.map (Value.int .u8)).toArray w ∧ v = .string (ns.foldl (fun r n => r.push (UInt8.ofNat n.toNat)) ByteArray.empty))) := by
      cases hn : Nat.beq n 0 with
      | true =>
        rw [hn] at hb
        simp only [cond_true, Option.some.injEq, Prod.mk.injEq] at hb
        obtain ⟨rfl, rfl⟩ := hb
        exact ⟨rfl, rfl, .inl ⟨beq0 hn, rfl⟩⟩
      | false =>
        rw [hn] at hb
        simp only [cond_false] at hb
        split at hb
        case h_2 => cases hb
        rename_i c e2 sz hg
        cases hl : Nat.beq ((c.drop o).take n).length n with
        | false => rw [hl] at hb; simp at hb
        | true =>
          rw [hl] at hb
          simp only [cond_true] at hb
          split at hb
          case h_2 => cases hb
          rename_i s hstr
          simp only [Option.some.injEq, Prod.mk.injEq] at hb
          obtain ⟨rfl, rfl⟩ := hb
          obtain ⟨ns, h1, h2⟩ := strC_spec hstr
          obtain ⟨xs', g1, g2⟩ := loadCells_rel (P := P) hr hg (beq0 hl)
          rw [h1] at g2
          have hsc : (ns.map (Value.int .u8)).all scalar = true := by
            rw [List.all_map, List.all_eq_true]; intro _ _; rfl
          have := g2.sc_eq hsc
          subst this
          exact ⟨rfl, rfl, .inr ⟨nbeq0 hn, ns, g1, by rw [h2]⟩⟩
    obtain ⟨rfl, hp, hk⟩ := key
    have nil : ∀ m d cap', n = 0 → v = .string ByteArray.empty → (convert src dst (.slice (some ⟨m, d, none⟩) n cap')).run P w = .ok v w := fun m d cap' h0 hv => by
      subst h0
      exact fin m d cap' [] (by simp [loadCells, loadCellsFrom]) hv
    rcases hk with ⟨h0, hv⟩ | ⟨h0, ns, k1, k2⟩
    · cases hx with
      | sc _ hsc => simp [scalar] at hsc
      | slE => exact ⟨r, w, v, nil _ _ _ h0 hv, Fr.refl hr, VR.pl hp⟩
      | slO => exact ⟨r, w, v, nil _ _ _ h0 hv, Fr.refl hr, VR.pl hp⟩
      | slK => exact ⟨r, w, v, nil _ _ _ h0 hv, Fr.refl hr, VR.pl hp⟩
    · cases hx with
      | sc _ hsc => simp [scalar] at hsc
      | slE => exact ⟨r, w, v, fin _ _ _ ns k1 k2, Fr.refl hr, VR.pl hp⟩
      | slO _ _ _ _ _ _ _ _ _ ha =>
        obtain ⟨rfl, rfl⟩ : _ ∧ _ := ha.resolve_right (by omega)
        exact ⟨r, w, v, fin _ _ _ ns k1 k2, Fr.refl hr, VR.pl hp⟩
      | slK _ _ _ _ _ _ _ _ ha =>
        obtain ⟨rfl, rfl⟩ : _ ∧ _ := ha.resolve_right (by omega)
        exact ⟨r, w, v, fin _ _ _ ns k1 k2, Fr.refl hr, VR.pl hp⟩
  · rename_i e0 e b o n c hs hd
    split at hb
    case h_2 => cases hb
    rename_i he
    cases hc : (Nat.beq src dst && Nat.beq (b % 2) 0) with
    | false => rw [hc] at hb; cases hb
    | true =>
      rw [hc] at hb
      simp only [cond_true] at hb
      simp only [Bool.and_eq_true] at hc
      obtain rfl := beq0 hc.1
      have h2 := beq0 hc.2
      split at hb
      case h_2 => cases hb
      rename_i cs e1 sz hg
      simp only [Option.some.injEq, Prod.mk.injEq] at hb
      obtain ⟨rfl, rfl⟩ := hb
      cases hx with
      | sc _ hsc => simp [scalar] at hsc
      | slO _ _ _ _ _ _ _ ho => omega
      | slK _ _ _ _ _ _ _ ho => omega
      | slE _ _ _ _ hlt hev =>
        obtain ⟨w', m1, m2⟩ := mark_sim (P := P) hr hg (o + r.δ b)
        refine ⟨r, w', _, ?_, m2, .slE _ _ _ _ hlt hev⟩
        rw [hd] at hs
        injection hs with hs
        injection hs with hs
        subst hs
        simp [convert, run_und hd, run_und he, m1]
  · cases hb
end
end Go.Proofs.YtcandpiafgicbaaGreatDoor.Ev
