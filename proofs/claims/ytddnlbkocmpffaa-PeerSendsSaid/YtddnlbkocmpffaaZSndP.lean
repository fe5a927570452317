/- What a host sends: in memory, part by part. -/
import Derived.Test.YtddnlbkocmpffaaZRecN
namespace Go.Proofs.Ytddnlbkocmpffaa
open Go.RowKit
set_option linter.unusedVariables false
set_option maxHeartbeats 4000000
set_option maxRecDepth 100000
/-- A message that is sent, in memory. -/
structure OutV where
  id : Int
  dst : Int
  dv : Value
  st : Int
  one : dv.oneCell' = true
abbrev encO (o : OutV) : List Value := [.int .u64 o.id, .int .i64 o.dst, o.dv, .int .i64 o.st, .bool false]
theorem encO_len (o : OutV) : (encO o).length = 5 := rfl
theorem SlO.one_at (o : OutV) : ∀ v ∈ encO o, v.oneCell' = true := fun v hv => by
  simp at hv
  rcases hv with rfl | rfl | rfl | rfl | rfl
  · rfl
  · rfl
  · exact o.one
  · rfl
  · rfl
theorem SlO.one_zero : ∀ v ∈ (Value.cells (.agg #[.int .u64 0, .int .i64 0, .slice none 0 0, .int .i64 0, .bool false])).toList, v.oneCell' = true := fun v hv => by
  simp [Value.cells] at hv
  rcases hv with rfl | rfl | rfl | rfl | rfl <;> rfl
structure OutA where
  id : Int
  dst : Int
  data : List Int
  st : Int
/-- What a host sends. -/
structure SndA where
  most : Int
  maxMsg : Int
  gm : Int
  gl : Int
  l : List OutA
structure SAd where
  gb : Nat
  lc : Value
  lv : Value
  ovr : List OutV
  ovs : List OutV
inductive SSlot where
  | top | giv | row | dat
def DatV (o : OutV) (a : OutA) (w : World) (s : Nat → Prop) : Prop := o.id = a.id ∧ o.dst = a.dst ∧ o.st = a.st ∧ Own w 0 5 1 encB o.dv a.data ∧ FootV s o.dv
def DatsV (ovs : List OutV) (l : List OutA) (w : World) (s : Nat → Prop) : Prop := ovs.length = l.length ∧ ∀ p ∈ ovs.zip l, DatV p.1 p.2 w s
theorem DatV.comp (o : OutV) (a : OutA) : Comp (DatV o a) where
  up := fun w s t ⟨h1, h2, h3, h4, h5⟩ hst => ⟨h1, h2, h3, h4, fun k hk => hst _ (h5 k hk)⟩
  keep := fun w w' S s ⟨h1, h2, h3, h4, h5⟩ m hs => ⟨h1, h2, h3, h4.mod m (fun k hk => hs _ (h5 k hk)), h5⟩
theorem DatsV.comp (ovs : List OutV) (l : List OutA) : Comp (DatsV ovs l) where
  up := fun w s t ⟨hl, h⟩ hst => ⟨hl, fun p hp => (DatV.comp _ _).up _ _ _ (h p hp) hst⟩
  keep := fun w w' S s ⟨hl, h⟩ m hs => ⟨hl, fun p hp => (DatV.comp _ _).keep _ _ _ _ (h p hp) m hs⟩
def SndS (sb : Nat) (ad : SAd) (S : SndA) : SSlot → World → (Nat → Prop) → Prop
  | .top => fun w s => s sb ∧ Blk w sb 103 #[.int .i64 S.most, .int .i64 S.maxMsg, .pointer (some ⟨ad.gb, 0, none⟩), ad.lc]
  | .giv => fun w s => s ad.gb ∧ Blk w ad.gb 138 #[.int .u64 S.gm, .int .u64 S.gl]
  | .row => fun w s => FootV s ad.lv ∧ Own w 0 56 5 encO ad.lv ad.ovr
  | .dat => DatsV ad.ovs S.l
theorem SndS.comp (sb : Nat) (ad : SAd) (S : SndA) : ∀ j, Comp (SndS sb ad S j)
  | .top => ⟨fun w s t h hst => ⟨hst _ h.1, h.2⟩, fun w w' S s h m hs => ⟨h.1, h.2.mod m (hs _ h.1)⟩⟩
  | .giv => ⟨fun w s t h hst => ⟨hst _ h.1, h.2⟩, fun w w' S s h m hs => ⟨h.1, h.2.mod m (hs _ h.1)⟩⟩
  | .row => ⟨fun w s t h hst => ⟨fun k hk => hst _ (h.1 k hk), h.2⟩, fun w w' S s h m hs => ⟨h.1, h.2.mod m (fun k hk => hs _ (h.1 k hk))⟩⟩
  | .dat => DatsV.comp _ _
def SndX (sb : Nat) (ad : SAd) (S : SndA) (w : World) (s : Nat → Prop) : Prop :=
  ∃ ow : Nat → Option SSlot, Fam (SndS sb ad S) w ow ∧ ∀ k i, ow k = some i → s k
structure SLink (ad : SAd) : Prop where
  lc : ad.lc = ad.lv
  ovr : ad.ovr = ad.ovs
def SndO (sb : Nat) (S : SndA) (w : World) (s : Nat → Prop) : Prop := ∃ ad, SndX sb ad S w s ∧ SLink ad
section
variable {sb : Nat} {ad ad' : SAd} {S S' : SndA} {w w' : World} {s t : Nat → Prop}
theorem SndX.up (h : SndX sb ad S w s) (hst : ∀ k, s k → t k) : SndX sb ad S w t := by
  obtain ⟨ow, h1, h2⟩ := h
  exact ⟨ow, h1, fun k i hk => hst _ (h2 k i hk)⟩
theorem SndX.keep {Z : Nat → Prop} (h : SndX sb ad S w s) (m : Mod Z w w') (hs : ∀ k, s k → ¬ Z k) : SndX sb ad S w' s := by
  obtain ⟨ow, h1, h2⟩ := h
  exact ⟨ow, ⟨fun j => (SndS.comp sb ad S j).keep _ _ Z _ (h1.each j) m (fun k hk => hs _ (h2 k j hk)), fun k j hk => Nat.lt_of_lt_of_le (h1.old k j hk) m.size⟩, h2⟩
theorem SndX.later (h : SndX sb ad S w s) (m : Mod NoB w w') : SndX sb ad S w' s := h.keep m fun _ _ e => e
theorem SndX.part (h : SndX sb ad S w s) (i : SSlot) : ∃ t : Nat → Prop, SndS sb ad S i w t ∧ (∀ k, t k → s k ∧ k < w.heap.size) ∧
    ∀ ad' S' w', Mod t w w' → SndS sb ad' S' i w' (Ext t w w') → (∀ j, j ≠ i → SndS sb ad' S' j = SndS sb ad S j) → SndX sb ad' S' w' (Ext s w w') := by
  obtain ⟨ow, h1, h2⟩ := h
  refine ⟨fun k => ow k = some i, h1.each i, fun k hk => ⟨h2 k i hk, h1.old k i hk⟩, fun ad' S' w' m hi hj => ?_⟩
  refine ⟨owAdd ow i w w', h1.step (SndS.comp sb ad S) i m (fun k _ hk => hk) hi (SndS.comp sb ad' S' i) hj, fun k j hk => ?_⟩
  unfold owAdd at hk
  split at hk
  · rename_i hlt; exact .inr hlt
  · exact .inl (h2 k j hk)
theorem SndX.top (h : SndX sb ad S w s) : (s sb ∧ sb < w.heap.size) ∧ Blk w sb 103 #[.int .i64 S.most, .int .i64 S.maxMsg, .pointer (some ⟨ad.gb, 0, none⟩), ad.lc] := by
  obtain ⟨t, h1, h2, -⟩ := h.part .top
  exact ⟨h2 _ h1.1, h1.2⟩
theorem SndX.giv (h : SndX sb ad S w s) : (s ad.gb ∧ ad.gb < w.heap.size) ∧ Blk w ad.gb 138 #[.int .u64 S.gm, .int .u64 S.gl] := by
  obtain ⟨t, h1, h2, -⟩ := h.part .giv
  exact ⟨h2 _ h1.1, h1.2⟩
theorem SndX.giveP (h : SndX sb ad S w s) (x : Int) : SndX sb ad { S with gl := x } (w.setCell ⟨ad.gb, 1, none⟩ (.int .u64 x)) (Ext s w (w.setCell ⟨ad.gb, 1, none⟩ (.int .u64 x))) := by
  obtain ⟨t, h1, h2, h3⟩ := h.part .giv
  refine h3 _ _ _ ((Mod.refl t w).setCell (fun _ => h1.1) _) ⟨.inl h1.1, h1.2.set 1 (.int .u64 x)⟩ fun j hj => ?_
  cases j <;> first | rfl | exact absurd rfl hj
theorem SndX.rowP (h : SndX sb ad S w s) : ∃ t : Nat → Prop, FootV t ad.lv ∧ Own w 0 56 5 encO ad.lv ad.ovr ∧ (∀ k, t k → s k ∧ k < w.heap.size) ∧
    ∀ v' os' w', Mod t w w' → FootV (Ext t w w') v' → Own w' 0 56 5 encO v' os' → SndX sb { ad with lv := v', ovr := os' } S w' (Ext s w w') := by
  obtain ⟨t, k1, k2, k3⟩ := h.part .row
  refine ⟨t, k1.1, k1.2, k2, fun v' os' w' hm hf ho => k3 _ _ w' hm ⟨hf, ho⟩ fun j hj => ?_⟩
  cases j <;> first | rfl | exact absurd rfl hj
theorem SndX.lcP (h : SndX sb ad S w s) (v : Value) : SndX sb { ad with lc := v } S (w.setCell ⟨sb, 3, none⟩ v) (Ext s w (w.setCell ⟨sb, 3, none⟩ v)) := by
  obtain ⟨t, h1, h2, h3⟩ := h.part .top
  refine h3 _ _ _ ((Mod.refl t w).setCell (fun _ => h1.1) _) ⟨.inl h1.1, h1.2.set 3 v⟩ fun j hj => ?_
  cases j <;> first | rfl | exact absurd rfl hj
/-- A message more: its bytes' row is new. -/
theorem SndX.datAdd (h : SndX sb ad S w s) (m : Mod NoB w w') {v : Value} {d : List Int} (ho : Own w' w.heap.size 5 1 encB v d) (h1 : v.oneCell' = true) (id dst st : Int) :
    SndX sb { ad with ovs := ad.ovs ++ [⟨id, dst, v, st, h1⟩] } { S with l := S.l ++ [⟨id, dst, d, st⟩] } w' (Ext s w w') := by
  obtain ⟨t, k1, k2, k3⟩ := h.part .dat
  have hk := (DatsV.comp _ _).up _ _ (Ext t w w') ((DatsV.comp _ _).keep _ _ _ _ k1 m (fun _ _ e => e)) (fun _ e => .inl e)
  refine k3 _ _ w' (m.mono (fun _ _ e => e.elim)) ⟨?_, ?_⟩ fun j hj => ?_
  · show (ad.ovs ++ [_]).length = (S.l ++ [_]).length
    rw [List.length_append, List.length_append, hk.1]; rfl
  · intro p hp
    change p ∈ (ad.ovs ++ [_]).zip (S.l ++ [_]) at hp
    rw [List.zip_append hk.1, List.mem_append] at hp
    rcases hp with hp | hp
    · exact hk.2 p hp
    · simp only [List.zip_cons_cons, List.zip_nil_right, List.mem_singleton] at hp
      subst hp
      exact ⟨rfl, rfl, rfl, ho.le (Nat.zero_le _), fun z hz => .inr ⟨ho.base hz, (ho.lt z hz).2⟩⟩
  · cases j <;> first | rfl | exact absurd rfl hj
/-- The messages turned otherwise. -/
theorem SndX.datTurn (h : SndX sb ad S w s) {ovs : List OutV} {l : List OutA} (hd : ∀ t, DatsV ad.ovs S.l w t → DatsV ovs l w t) : SndX sb { ad with ovs := ovs } { S with l := l } w s := by
  obtain ⟨ow, h1, h2⟩ := h
  refine ⟨ow, h1.turn (fun j hj => ?_), h2⟩
  cases j with
  | dat => exact hd _ hj
  | _ => exact hj
theorem SndX.ext {w1 : World} (h : SndX sb ad S w' (Ext (Ext s w w1) w1 w')) (h1 : w.heap.size ≤ w1.heap.size) (h2 : w1.heap.size ≤ w'.heap.size) : SndX sb ad S w' (Ext s w w') := h.up fun _ hk => Ext.trans h1 h2 hk
theorem SndX.ext0 {w1 : World} (h : SndX sb ad S w' (Ext s w1 w')) (h1 : w.heap.size ≤ w1.heap.size) : SndX sb ad S w' (Ext s w w') := h.up fun _ hk => hk.elim .inl fun e => .inr ⟨Nat.le_trans h1 e.1, e.2⟩
theorem SndX.size (h : SndX sb ad S w s) : ∃ s', (∀ k, s' k → s k ∧ k < w.heap.size) ∧ SndX sb ad S w s' := by
  obtain ⟨ow, h1, h2⟩ := h
  exact ⟨fun k => s k ∧ k < w.heap.size, fun k hk => hk, ow, h1, fun k i hk => ⟨h2 k i hk, h1.old k i hk⟩⟩
theorem SndX.lens (h : SndX sb ad S w s) : ad.ovs.length = S.l.length := by
  obtain ⟨t, h1, -⟩ := h.part .dat
  exact h1.1
theorem SndX.row (h : SndX sb ad S w s) (hl : SLink ad) : Own w 0 56 5 encO ad.lc ad.ovs := by
  obtain ⟨t, h1, -⟩ := h.part .row
  rw [hl.lc, ← hl.ovr]
  exact h1.2
end
theorem giverNewNo (last : Int) (w : World) (h : last < 1 ∨ 1152921504606846976 < last) : Calls Try.prog 43 #[.int .u64 last] w fun e w' => e = .returned (.tuple #[.pointer none, .int .i64 1]) ∧ w = w' := by
  have hsp : last < 1 ∨ (¬ last < 1 ∧ 1152921504606846976 < last) := by omega
  clear h
  rcases hsp with h | ⟨h, h'⟩
  all_goals
    go_enter Try.func43, Try.ntmps43
    go_wp2
    go_ret2
    exact ⟨rfl, rfl⟩
theorem giverNew (last : Int) (w : World) (h : ¬ last < 1 ∧ ¬ 1152921504606846976 < last) : Calls Try.prog 43 #[.int .u64 last] w fun e w' => e = .returned (.tuple #[.pointer (some ⟨w.heap.size, 0, none⟩), .int .i64 0]) ∧ Blk w' w.heap.size 138 #[.int .u64 last, .int .u64 0] ∧ w'.heap.size = w.heap.size + 1 ∧ Mod NoB w w' := by
  obtain ⟨h1, h2⟩ := h
  have HB := Lib.hid (Blk.new w 138 #[.int .u64 last, .int .u64 0])
  have HM := Lib.hid ((Mod.refl NoB w).alloc (.cells #[.int .u64 last, .int .u64 0] 138))
  go_enter Try.func43, Try.ntmps43
  go_wp2
  go_ret2
  exact ⟨rfl, HB.out, by simp, HM.out⟩
/-- Nothing is sent yet. -/
def newSnd (most maxMsg last : Int) : SndA := ⟨most, maxMsg, last, 0, []⟩
def sndMay (most maxMsg last : Int) : Prop := (1 ≤ most ∧ most ≤ 10000 ∧ 0 ≤ maxMsg ∧ maxMsg ≤ 20000) ∧ 1 ≤ last ∧ last ≤ 1152921504606846976
theorem newSndNo (most maxMsg last : Int) (w : World) (h : ¬ sndMay most maxMsg last) : Calls Try.prog 14 #[.int .i64 most, .int .i64 maxMsg, .int .u64 last] w fun e w' => e = .returned (.tuple #[.pointer none, .int .i64 1]) ∧ Mod NoB w w' := by
  unfold sndMay at h
  by_cases hg : last < 1 ∨ 1152921504606846976 < last
  · have HG := Lib.hid (giverNewNo last w hg)
    by_cases hm : 1 ≤ most ∧ most ≤ 10000 ∧ 0 ≤ maxMsg ∧ maxMsg ≤ 20000
    · have HM := Lib.hid (mayYes most maxMsg w hm)
      clear h hg hm
      go_enter Try.func14, Try.ntmps14
      go_wp2_with fail
      refine HG.out.mono ?_
      rintro e w2 ⟨rfl, rfl⟩
      go_wp2_with fail
      refine HM.out.mono ?_
      rintro e w2 ⟨rfl, rfl⟩
      go_wp2_with fail
      go_ret2
      exact ⟨rfl, Mod.refl _ _⟩
    · have HM := Lib.hid (mayNo most maxMsg w hm)
      clear h hg hm
      go_enter Try.func14, Try.ntmps14
      go_wp2_with fail
      refine HG.out.mono ?_
      rintro e w2 ⟨rfl, rfl⟩
      go_wp2_with fail
      refine HM.out.mono ?_
      rintro e w2 ⟨rfl, rfl⟩
      go_wp2_with fail
      go_ret2
      exact ⟨rfl, Mod.refl _ _⟩
  · have HG := Lib.hid (giverNew last w (by omega))
    have hm : ¬ (1 ≤ most ∧ most ≤ 10000 ∧ 0 ≤ maxMsg ∧ maxMsg ≤ 20000) := fun e => h ⟨e, by omega⟩
    have HM := Lib.hid (fun W => mayNo most maxMsg W hm)
    clear h hg hm
    go_enter Try.func14, Try.ntmps14
    go_wp2_with fail
    refine HG.out.mono ?_
    rintro e w2 ⟨rfl, hb, hz, m2⟩
    have HM2 := Lib.hid m2
    clear hb hz m2
    go_wp2_with fail
    refine (HM.out _).mono ?_
    rintro e w3 ⟨rfl, rfl⟩
    go_wp2_with fail
    go_ret2
    exact ⟨rfl, HM2.out⟩
theorem newSndW (most maxMsg last : Int) (w : World) (h : sndMay most maxMsg last) : Calls Try.prog 14 #[.int .i64 most, .int .i64 maxMsg, .int .u64 last] w fun e w' => ∃ sb, e = .returned (.tuple #[.pointer (some ⟨sb, 0, none⟩), .int .i64 0]) ∧ SndO sb (newSnd most maxMsg last) w' (Ext NoB w w') ∧ Mod NoB w w' := by
  unfold sndMay at h
  have HG := Lib.hid (giverNew last w (by omega))
  have HM := Lib.hid (fun W => mayYes most maxMsg W h.1)
  clear h
  go_enter Try.func14, Try.ntmps14
  go_wp2_with fail
  refine HG.out.mono ?_
  rintro e w2 ⟨rfl, hb, hz, m2⟩
  have HM2 := Lib.hid m2
  have HB2 := Lib.hid hb
  have HZ2 := Lib.hid hz
  clear hb hz m2
  go_wp2_with fail
  refine (HM.out _).mono ?_
  rintro e w3 ⟨rfl, rfl⟩
  go_wp2_with fail
  go_ret2
  have hz := HZ2.out
  have hb := Blk.new w2 103 #[.int .i64 most, .int .i64 maxMsg, .pointer (some ⟨w.heap.size, 0, none⟩), .slice none 0 0]
  have ha := (Mod.refl NoB w2).alloc (.cells #[.int .i64 most, .int .i64 maxMsg, .pointer (some ⟨w.heap.size, 0, none⟩), .slice none 0 0] 103)
  have hsz : (w2.alloc (.cells #[.int .i64 most, .int .i64 maxMsg, .pointer (some ⟨w.heap.size, 0, none⟩), .slice none 0 0] 103)).heap.size = w2.heap.size + 1 := by simp
  refine ⟨w2.heap.size, rfl, ⟨⟨w.heap.size, .slice none 0 0, .slice none 0 0, [], []⟩, ⟨fun k => if k = w2.heap.size then some .top else if k = w.heap.size then some .giv else none, ⟨fun j => ?_, fun k i hk => ?_⟩, fun k i hk => ?_⟩, ⟨rfl, rfl⟩⟩, HM2.out.trans ha (fun _ _ e => e)⟩
  · cases j with
    | top =>
      refine ⟨?_, hb⟩
      show (if w2.heap.size = w2.heap.size then some SSlot.top else _) = _
      rw [if_pos rfl]
    | giv =>
      refine ⟨?_, HB2.out.mod ha (fun e => e)⟩
      show (if w.heap.size = w2.heap.size then some SSlot.top else if w.heap.size = w.heap.size then some .giv else none) = _
      rw [if_neg (by omega), if_pos rfl]
    | row => exact ⟨fun z hz => (by cases hz), Own.nil⟩
    | dat => exact ⟨rfl, fun p hp => (by cases hp)⟩
  · change (if k = w2.heap.size then some SSlot.top else if k = w.heap.size then some .giv else none) = some i at hk
    rw [hsz]
    split at hk
    · omega
    · split at hk
      · omega
      · cases hk
  · change (if k = w2.heap.size then some SSlot.top else if k = w.heap.size then some .giv else none) = some i at hk
    refine .inr ?_
    rw [hsz]
    split at hk
    · omega
    · split at hk
      · omega
      · cases hk
end Go.Proofs.Ytddnlbkocmpffaa
