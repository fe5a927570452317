/- What a host gets: in memory, part by part. -/
import Derived.Test.YtddnlbkocmpffaaZReaX
import Derived.Test.YtddnlbkocmpffaaZG5
import Derived.Test.YtddnlbkocmpffaaZTabKBuf
import Derived.Test.YtddnlbkocmpffaaZG3
import Derived.Test.YtddnlbkocmpffaaZG1
namespace Go.Proofs.Ytddnlbkocmpffaa
set_option linter.unusedVariables false
/-- What a host gets. -/
structure RecA where
  maxMsg : Int
  most : Int
  tab : Int × Int → Option BufA
  n : Int
  win : Nat → Int × List Int
  known : Nat → Int
  out : List (Int × Int × List Int)
/-- Where its parts lie. -/
structure RAd where
  bt : Nat
  bs : Nat
  m : Int × Int → Option Nat
  wb : Nat → Nat
  bb : Int × Int → Nat
  outc : Value
  outv : Value
  msr : List MsgV
  ms : List MsgV
inductive RSlot where
  | top | tab | win (i : Nat) | buf (k : Int × Int) | out | dat
def recCells (mm : Int) (bt : Nat) (wb : Nat → Nat) (kn : Nat → Int) (most : Int) (outv : Value) : Array Value :=
  #[.int .i64 mm, .pointer (some ⟨bt, 0, none⟩), .pointer (some ⟨wb 0, 0, none⟩), .pointer (some ⟨wb 1, 0, none⟩), .pointer (some ⟨wb 2, 0, none⟩), .pointer (some ⟨wb 3, 0, none⟩), .pointer (some ⟨wb 4, 0, none⟩), .pointer (some ⟨wb 5, 0, none⟩), .pointer (some ⟨wb 6, 0, none⟩), .pointer (some ⟨wb 7, 0, none⟩),
    .int .i64 (kn 0), .int .i64 (kn 1), .int .i64 (kn 2), .int .i64 (kn 3), .int .i64 (kn 4), .int .i64 (kn 5), .int .i64 (kn 6), .int .i64 (kn 7), .int .i64 most, outv]
theorem lt8 {i : Nat} (h : i < 8) : i = 0 ∨ i = 1 ∨ i = 2 ∨ i = 3 ∨ i = 4 ∨ i = 5 ∨ i = 6 ∨ i = 7 := by omega
theorem recCells_win {mm most : Int} {bt : Nat} {wb : Nat → Nat} {kn : Nat → Int} {outv : Value} {i : Nat} (h : i < 8) : (recCells mm bt wb kn most outv)[2 + i]? = some (.pointer (some ⟨wb i, 0, none⟩)) := by
  rcases lt8 h with rfl | rfl | rfl | rfl | rfl | rfl | rfl | rfl <;> rfl
theorem recCells_known {mm most : Int} {bt : Nat} {wb : Nat → Nat} {kn : Nat → Int} {outv : Value} {i : Nat} (h : i < 8) : (recCells mm bt wb kn most outv)[10 + i]? = some (.int .i64 (kn i)) := by
  rcases lt8 h with rfl | rfl | rfl | rfl | rfl | rfl | rfl | rfl <;> rfl
/-- One more, or less. -/
def setAt {β : Type} (f : Nat → β) (i : Nat) (x : β) : Nat → β := fun j => if j = i then x else f j
theorem recCells_set {mm most : Int} {bt : Nat} {wb : Nat → Nat} {kn : Nat → Int} {outv : Value} {i : Nat} (h : i < 8) (x : Int) : (recCells mm bt wb kn most outv).setIfInBounds (10 + i) (.int .i64 x) = recCells mm bt wb (setAt kn i x) most outv := by
  rcases lt8 h with rfl | rfl | rfl | rfl | rfl | rfl | rfl | rfl <;> rfl
theorem recCells_out {mm most : Int} {bt : Nat} {wb : Nat → Nat} {kn : Nat → Int} {outv : Value} (v : Value) : (recCells mm bt wb kn most outv).setIfInBounds 19 v = recCells mm bt wb kn most v := rfl
def WinO (bw : Nat) (most : Int) (x : Int × List Int) (w : World) (s : Nat → Prop) : Prop := ∃ v, WinB w 0 bw most x.1 v x.2 ∧ s bw ∧ FootV s v
theorem WinO.comp (bw : Nat) (most : Int) (x : Int × List Int) : Comp (WinO bw most x) where
  up := fun w s t ⟨v, h, h1, h2⟩ hst => ⟨v, h, hst _ h1, fun k hk => hst _ (h2 k hk)⟩
  keep := fun w w' S s ⟨v, h, h1, h2⟩ m hs => ⟨v, h.mod m (hs _ h1) (fun k hk => hs _ (h2 k hk)), h1, h2⟩
/-- A message's bytes in memory. -/
def DatO (m : MsgV) (o : Int × Int × List Int) (w : World) (s : Nat → Prop) : Prop := m.src = o.1 ∧ m.id = o.2.1 ∧ Own w 0 5 1 encB m.dv o.2.2 ∧ FootV s m.dv
def DatsO (ms : List MsgV) (out : List (Int × Int × List Int)) (w : World) (s : Nat → Prop) : Prop :=
  ms.length = out.length ∧ (∀ p ∈ ms.zip out, DatO p.1 p.2 w s) ∧ ms.Pairwise fun a b => ∀ k, a.dv.ownBlock = some k → b.dv.ownBlock ≠ some k
theorem DatsO.comp (ms : List MsgV) (out : List (Int × Int × List Int)) : Comp (DatsO ms out) where
  up := fun w s t ⟨hl, h, hp⟩ hst => ⟨hl, fun p hp => by obtain ⟨h1, h2, h3, h4⟩ := h p hp; exact ⟨h1, h2, h3, fun k hk => hst _ (h4 k hk)⟩, hp⟩
  keep := fun w w' S s ⟨hl, h, hp⟩ m hs => ⟨hl, fun p hp => by obtain ⟨h1, h2, h3, h4⟩ := h p hp; exact ⟨h1, h2, h3.mod m (fun k hk => hs _ (h4 k hk)), h4⟩, hp⟩
/-- The parts. -/
def RecS (rb : Nat) (ad : RAd) (R : RecA) : RSlot → World → (Nat → Prop) → Prop
  | .top => fun w s => s rb ∧ Blk w rb 86 (recCells R.maxMsg ad.bt ad.wb R.known R.most ad.outc)
  | .tab => fun w s => (s ad.bt ∧ s ad.bs) ∧ TabBuf.Tb w ad.bt ad.bs R.most R.n ad.m
  | .win i => fun w s => i < 8 → WinO (ad.wb i) R.most (R.win i) w s
  | .buf k => fun w s => ∀ b, R.tab k = some b → BufO (ad.bb k) b w s
  | .out => fun w s => FootV s ad.outv ∧ Own w 0 33 3 encM ad.outv ad.msr
  | .dat => DatsO ad.ms R.out
theorem RecS.comp (rb : Nat) (ad : RAd) (R : RecA) : ∀ j, Comp (RecS rb ad R j)
  | .top => ⟨fun w s t h hst => ⟨hst _ h.1, h.2⟩, fun w w' S s h m hs => ⟨h.1, h.2.mod m (hs _ h.1)⟩⟩
  | .tab => ⟨fun w s t h hst => ⟨⟨hst _ h.1.1, hst _ h.1.2⟩, h.2⟩, fun w w' S s h m hs => ⟨h.1, h.2.mod m (hs _ h.1.1) (hs _ h.1.2)⟩⟩
  | .win i => ⟨fun w s t h hst hi => (WinO.comp _ _ _).up _ _ _ (h hi) hst, fun w w' S s h m hs hi => (WinO.comp _ _ _).keep _ _ _ _ (h hi) m hs⟩
  | .buf k => ⟨fun w s t h hst b hb => (BufO.comp _ _).up _ _ _ (h b hb) hst, fun w w' S s h m hs b hb => (BufO.comp _ _).keep _ _ _ _ (h b hb) m hs⟩
  | .out => ⟨fun w s t h hst => ⟨fun k hk => hst _ (h.1 k hk), h.2⟩, fun w w' S s h m hs => ⟨h.1, h.2.mod m (fun k hk => hs _ (h.1 k hk))⟩⟩
  | .dat => DatsO.comp _ _
/-- All of it, within blocks. -/
def RecX (rb : Nat) (ad : RAd) (R : RecA) (w : World) (s : Nat → Prop) : Prop :=
  ∃ ow : Nat → Option RSlot, Fam (RecS rb ad R) w ow ∧ ∀ k i, ow k = some i → s k
structure RLink (ad : RAd) (R : RecA) : Prop where
  tab : ∀ k, ad.m k = (R.tab k).map fun _ => ad.bb k
  outc : ad.outc = ad.outv
  msr : ad.msr = ad.ms
def RecO (rb : Nat) (R : RecA) (w : World) (s : Nat → Prop) : Prop := ∃ ad, RecX rb ad R w s ∧ RLink ad R
theorem Ext.up {s : Nat → Prop} {w w' : World} {k : Nat} (h : s k) : Ext s w w' k := .inl h
theorem Ext.trans {s : Nat → Prop} {w w1 w2 : World} (h : w.heap.size ≤ w1.heap.size) (h2 : w1.heap.size ≤ w2.heap.size) {k : Nat} (hk : Ext (Ext s w w1) w1 w2 k) : Ext s w w2 k := by
  rcases hk with (hk | ⟨h3, h4⟩) | ⟨h3, h4⟩
  · exact .inl hk
  · exact .inr ⟨h3, by omega⟩
  · exact .inr ⟨by omega, h4⟩
section
variable {rb : Nat} {ad ad' : RAd} {R R' : RecA} {w w' : World} {s t : Nat → Prop}
theorem RecX.up (h : RecX rb ad R w s) (hst : ∀ k, s k → t k) : RecX rb ad R w t := by
  obtain ⟨ow, h1, h2⟩ := h
  exact ⟨ow, h1, fun k i hk => hst _ (h2 k i hk)⟩
theorem RecX.keep {S : Nat → Prop} (h : RecX rb ad R w s) (m : Mod S w w') (hs : ∀ k, s k → ¬ S k) : RecX rb ad R w' s := by
  obtain ⟨ow, h1, h2⟩ := h
  exact ⟨ow, ⟨fun j => (RecS.comp rb ad R j).keep _ _ S _ (h1.each j) m (fun k hk => hs _ (h2 k j hk)), fun k j hk => Nat.lt_of_lt_of_le (h1.old k j hk) m.size⟩, h2⟩
theorem RecX.later (h : RecX rb ad R w s) (m : Mod NoB w w') : RecX rb ad R w' s := h.keep m fun _ _ e => e
/-- One part, and how it is put back. -/
theorem RecX.part (h : RecX rb ad R w s) (i : RSlot) : ∃ t : Nat → Prop, RecS rb ad R i w t ∧ (∀ k, t k → s k ∧ k < w.heap.size) ∧
    ∀ ad' R' w', Mod t w w' → RecS rb ad' R' i w' (Ext t w w') → (∀ j, j ≠ i → RecS rb ad' R' j = RecS rb ad R j) → RecX rb ad' R' w' (Ext s w w') := by
  obtain ⟨ow, h1, h2⟩ := h
  refine ⟨fun k => ow k = some i, h1.each i, fun k hk => ⟨h2 k i hk, h1.old k i hk⟩, fun ad' R' w' m hi hj => ?_⟩
  refine ⟨owAdd ow i w w', h1.step (RecS.comp rb ad R) i m (fun k _ hk => hk) hi (RecS.comp rb ad' R' i) hj, fun k j hk => ?_⟩
  unfold owAdd at hk
  split at hk
  · rename_i hlt; exact .inr hlt
  · exact .inl (h2 k j hk)
theorem RecX.top (h : RecX rb ad R w s) : (s rb ∧ rb < w.heap.size) ∧ Blk w rb 86 (recCells R.maxMsg ad.bt ad.wb R.known R.most ad.outc) := by
  obtain ⟨t, h1, h2, -⟩ := h.part .top
  exact ⟨h2 _ h1.1, h1.2⟩
theorem RecX.tabP (h : RecX rb ad R w s) : ∃ t : Nat → Prop, (t ad.bt ∧ t ad.bs) ∧ TabBuf.Tb w ad.bt ad.bs R.most R.n ad.m ∧ (∀ k, t k → s k ∧ k < w.heap.size) ∧
    ∀ bq n' m' w', (bq = ad.bs ∨ w.heap.size ≤ bq) → Mod t w w' → TabBuf.Tb w' ad.bt bq R.most n' m' → RecX rb { ad with bs := bq, m := m' } { R with n := n' } w' (Ext s w w') := by
  obtain ⟨t, h1, h2, h3⟩ := h.part .tab
  refine ⟨t, h1.1, h1.2, h2, fun bq n' m' w' hq hm ht => h3 _ _ w' hm ⟨⟨.inl h1.1.1, ?_⟩, ht⟩ fun j hj => ?_⟩
  · rcases hq with rfl | hq
    · exact .inl h1.1.2
    · exact .inr ⟨hq, ht.lt.2.1⟩
  · cases j <;> first | rfl | exact absurd rfl hj
theorem RecX.winP (h : RecX rb ad R w s) {i : Nat} (hi : i < 8) : ∃ t : Nat → Prop, WinO (ad.wb i) R.most (R.win i) w t ∧ (∀ k, t k → s k ∧ k < w.heap.size) ∧
    ∀ x w', Mod t w w' → WinO (ad.wb i) R.most x w' (Ext t w w') → RecX rb ad { R with win := setAt R.win i x } w' (Ext s w w') := by
  obtain ⟨t, h1, h2, h3⟩ := h.part (.win i)
  refine ⟨t, h1 hi, h2, fun x w' hm hw => h3 _ _ w' hm (fun _ => ?_) fun j hj => ?_⟩
  · show WinO (ad.wb i) R.most (setAt R.win i x i) w' (Ext t w w')
    rw [setAt, if_pos rfl]
    exact hw
  · cases j with
    | win j =>
      have hne : j ≠ i := fun e => hj (by rw [e])
      funext w s
      show (j < 8 → WinO (ad.wb j) R.most (setAt R.win i x j) w s) = (j < 8 → WinO (ad.wb j) R.most (R.win j) w s)
      rw [setAt, if_neg hne]
    | _ => rfl
/-- A buffer set. -/
def setBuf (f : Int × Int → Option BufA) (k : Int × Int) (b : Option BufA) : Int × Int → Option BufA := fun k' => if k' = k then b else f k'
theorem RecX.bufP (h : RecX rb ad R w s) (k : Int × Int) {b : BufA} (hb : R.tab k = some b) : ∃ t : Nat → Prop, BufO (ad.bb k) b w t ∧ (∀ k, t k → s k ∧ k < w.heap.size) ∧
    ∀ b' w', Mod t w w' → BufO (ad.bb k) b' w' (Ext t w w') → RecX rb ad { R with tab := setBuf R.tab k (some b') } w' (Ext s w w') := by
  obtain ⟨t, h1, h2, h3⟩ := h.part (.buf k)
  refine ⟨t, h1 b hb, h2, fun b' w' hm hw => h3 _ _ w' hm (fun b'' hb'' => ?_) fun j hj => ?_⟩
  · have : some b' = some b'' := by rw [← hb'']; show some b' = setBuf R.tab k (some b') k; rw [setBuf, if_pos rfl]
    obtain rfl := Option.some.inj this
    exact hw
  · cases j with
    | buf j =>
      have hne : j ≠ k := fun e => hj (by rw [e])
      funext w s
      show (∀ b, setBuf R.tab k (some b') j = some b → BufO (ad.bb j) b w s) = (∀ b, R.tab j = some b → BufO (ad.bb j) b w s)
      rw [setBuf, if_neg hne]
    | _ => rfl
/-- A buffer that is new. -/
theorem RecX.bufNew (h : RecX rb ad R w s) (k : Int × Int) {b : BufA} {bb : Nat} (m : Mod NoB w w') (hb : BufO bb b w' (Ext NoB w w')) : RecX rb { ad with bb := fun k' => if k' = k then bb else ad.bb k' } { R with tab := setBuf R.tab k (some b) } w' (Ext s w w') := by
  obtain ⟨t, h1, h2, h3⟩ := h.part (.buf k)
  refine h3 _ _ w' (m.mono (fun _ _ e => e.elim)) (fun b'' hb'' => ?_) fun j hj => ?_
  · have : some b = some b'' := by rw [← hb'']; show some b = setBuf R.tab k (some b) k; rw [setBuf, if_pos rfl]
    obtain rfl := Option.some.inj this
    show BufO (if k = k then bb else ad.bb k) b w' _
    rw [if_pos rfl]
    exact (BufO.comp _ _).up _ _ _ hb fun z hz => hz.elim (fun e => e.elim) .inr
  · cases j with
    | buf j =>
      have hne : j ≠ k := fun e => hj (by rw [e])
      funext w s
      show (∀ b', setBuf R.tab k (some b) j = some b' → BufO (if j = k then bb else ad.bb j) b' w s) = (∀ b, R.tab j = some b → BufO (ad.bb j) b w s)
      rw [setBuf, if_neg hne, if_neg hne]
    | _ => rfl
/-- A buffer that is forgotten. -/
theorem RecX.bufGone (h : RecX rb ad R w s) (k : Int × Int) : RecX rb ad { R with tab := setBuf R.tab k none } w s := by
  obtain ⟨ow, h1, h2⟩ := h
  refine ⟨ow, h1.turn (fun j hj => ?_), h2⟩
  cases j with
  | buf j =>
    intro b hb
    change setBuf R.tab k none j = some b at hb
    rw [setBuf] at hb
    split at hb
    · cases hb
    · exact hj b hb
  | _ => exact hj
theorem RecX.knownP (h : RecX rb ad R w s) {i : Nat} (hi : i < 8) (x : Int) : RecX rb ad { R with known := setAt R.known i x } (w.setCell ⟨rb, 10 + i, none⟩ (.int .i64 x)) (Ext s w (w.setCell ⟨rb, 10 + i, none⟩ (.int .i64 x))) := by
  obtain ⟨t, h1, h2, h3⟩ := h.part .top
  refine h3 _ _ _ ((Mod.refl t w).setCell (fun _ => h1.1) _) ⟨.inl h1.1, ?_⟩ fun j hj => ?_
  · have := h1.2.set (10 + i) (.int .i64 x)
    rw [recCells_set hi] at this
    exact this
  · cases j <;> first | rfl | exact absurd rfl hj
/-- A message that is delivered: its bytes' row is new. -/
theorem RecX.datAdd (h : RecX rb ad R w s) (m : Mod NoB w w') {v : Value} {d : List Int} (ho : Own w' w.heap.size 5 1 encB v d) (h1 : v.oneCell' = true) (src id : Int) :
    RecX rb { ad with ms := ad.ms ++ [⟨src, id, v, h1⟩] } { R with out := R.out ++ [(src, id, d)] } w' (Ext s w w') := by
  obtain ⟨t, k1, k2, k3⟩ := h.part .dat
  have hk := (DatsO.comp _ _).up _ _ (Ext t w w') ((DatsO.comp _ _).keep _ _ _ _ k1 m (fun _ _ e => e)) (fun _ e => .inl e)
  refine k3 _ _ w' (m.mono (fun _ _ e => e.elim)) ⟨?_, ?_, ?_⟩ fun j hj => ?_
  · show (ad.ms ++ [_]).length = (R.out ++ [_]).length
    rw [List.length_append, List.length_append, hk.1]; rfl
  · intro p hp
    change p ∈ (ad.ms ++ [_]).zip (R.out ++ [_]) at hp
    rw [List.zip_append hk.1, List.mem_append] at hp
    rcases hp with hp | hp
    · exact hk.2.1 p hp
    · simp only [List.zip_cons_cons, List.zip_nil_right, List.mem_singleton] at hp
      subst hp
      exact ⟨rfl, rfl, ho.le (Nat.zero_le _), fun z hz => .inr ⟨ho.base hz, (ho.lt z hz).2⟩⟩
  · show (ad.ms ++ [_]).Pairwise _
    rw [List.pairwise_append]
    refine ⟨hk.2.2, List.pairwise_singleton _ _, fun a ha b hb z h2 h3 => ?_⟩
    rw [List.mem_singleton] at hb
    subst hb
    have h4 := ho.base h3
    obtain ⟨i, hi, hai⟩ := List.mem_iff_getElem.1 ha
    have hi2 : i < R.out.length := by rw [← hk.1]; exact hi
    have := k1.2.1 (ad.ms[i], R.out[i]) (by
      rw [List.mem_iff_getElem]
      exact ⟨i, by rw [List.length_zip]; omega, by rw [List.getElem_zip]⟩)
    obtain ⟨-, -, h5, -⟩ := this
    have h6 := (h5.lt z (by rw [hai]; exact h2)).2
    omega
  · cases j <;> first | rfl | exact absurd rfl hj
theorem RecX.outP (h : RecX rb ad R w s) : ∃ t : Nat → Prop, FootV t ad.outv ∧ Own w 0 33 3 encM ad.outv ad.msr ∧ (∀ k, t k → s k ∧ k < w.heap.size) ∧
    ∀ v' ms' w', Mod t w w' → FootV (Ext t w w') v' → Own w' 0 33 3 encM v' ms' → RecX rb { ad with outv := v', msr := ms' } R w' (Ext s w w') := by
  obtain ⟨t, k1, k2, k3⟩ := h.part .out
  refine ⟨t, k1.1, k1.2, k2, fun v' ms' w' hm hf ho => k3 _ _ w' hm ⟨hf, ho⟩ fun j hj => ?_⟩
  cases j <;> first | rfl | exact absurd rfl hj
theorem RecX.outcP (h : RecX rb ad R w s) (v : Value) : RecX rb { ad with outc := v } R (w.setCell ⟨rb, 19, none⟩ v) (Ext s w (w.setCell ⟨rb, 19, none⟩ v)) := by
  obtain ⟨t, h1, h2, h3⟩ := h.part .top
  refine h3 _ _ _ ((Mod.refl t w).setCell (fun _ => h1.1) _) ⟨.inl h1.1, ?_⟩ fun j hj => ?_
  · exact h1.2.set 19 v
  · cases j <;> first | rfl | exact absurd rfl hj
theorem RecX.ext {w1 : World} (h : RecX rb ad R w' (Ext (Ext s w w1) w1 w')) (h1 : w.heap.size ≤ w1.heap.size) (h2 : w1.heap.size ≤ w'.heap.size) : RecX rb ad R w' (Ext s w w') := h.up fun _ hk => Ext.trans h1 h2 hk
theorem RecX.ext0 {w1 : World} (h : RecX rb ad R w' (Ext s w1 w')) (h1 : w.heap.size ≤ w1.heap.size) : RecX rb ad R w' (Ext s w w') := h.up fun _ hk => hk.elim .inl fun e => .inr ⟨Nat.le_trans h1 e.1, e.2⟩
theorem RecX.size (h : RecX rb ad R w s) (k : Nat) : ∃ s', (∀ k, s' k → s k ∧ k < w.heap.size) ∧ RecX rb ad R w s' := by
  obtain ⟨ow, h1, h2⟩ := h
  exact ⟨fun k => s k ∧ k < w.heap.size, fun k hk => hk, ow, h1, fun k i hk => ⟨h2 k i hk, h1.old k i hk⟩⟩
end
end Go.Proofs.Ytddnlbkocmpffaa
