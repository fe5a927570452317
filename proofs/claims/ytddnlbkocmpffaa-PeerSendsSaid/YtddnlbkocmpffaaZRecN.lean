/- peer.NewReceivers. -/
import Derived.Test.YtddnlbkocmpffaaZRecR
import Derived.Deep.RegionWith
namespace Go.Proofs.Ytddnlbkocmpffaa
open Go.RowKit
set_option linter.unusedVariables false
set_option maxHeartbeats 4000000
set_option maxRecDepth 100000
theorem mayYes (n m : Int) (w : World) (h : 1 ≤ n ∧ n ≤ 10000 ∧ 0 ≤ m ∧ m ≤ 20000) : Calls Try.prog 32 #[.int .i64 n, .int .i64 m] w fun e w' => e = .returned (.bool true) ∧ w = w' := by
  obtain ⟨h1, h2, h3, h4⟩ := h
  go_enter Try.func32, Try.ntmps32
  go_wp2
  go_ret
  exact ⟨by simp, rfl⟩
theorem mayNo (n m : Int) (w : World) (h : ¬ (1 ≤ n ∧ n ≤ 10000 ∧ 0 ≤ m ∧ m ≤ 20000)) : Calls Try.prog 32 #[.int .i64 n, .int .i64 m] w fun e w' => e = .returned (.bool false) ∧ w = w' := by
  have hsp : ¬ 1 ≤ n ∨ (1 ≤ n ∧ ¬ n ≤ 10000) ∨ (1 ≤ n ∧ n ≤ 10000 ∧ ¬ 0 ≤ m) ∨ (1 ≤ n ∧ n ≤ 10000 ∧ 0 ≤ m ∧ ¬ m ≤ 20000) := by omega
  clear h
  rcases hsp with h1 | ⟨h1, h2⟩ | ⟨h1, h2, h3⟩ | ⟨h1, h2, h3, h4⟩
  all_goals
    go_enter Try.func32, Try.ntmps32
    go_wp2
    go_ret
  all_goals first
    | exact ⟨rfl, rfl⟩
    | exact ⟨by simp [h4], rfl⟩
    | exact ⟨by simp; omega, rfl⟩
/-- Nothing yet. -/
def newRec (most maxMsg : Int) : RecA := ⟨maxMsg, most, fun _ => none, 0, fun _ => (1, []), fun _ => 0, []⟩
theorem newRec_ok {most maxMsg : Int} (h : 1 ≤ most ∧ most ≤ 10000 ∧ 0 ≤ maxMsg ∧ maxMsg ≤ 20000) : RecOk (newRec most maxMsg) :=
  ⟨h.1, h.2.1, h.2.2.1, h.2.2.2, ⟨[], List.nodup_nil, fun k => by simp [newRec], rfl, fun i hi => rfl⟩, fun k b hb => (by cases hb), fun i hi => ⟨Int.le_refl _, by show (1 : Int) ≤ _; omega, List.Pairwise.nil, fun r hr => (by cases hr)⟩, fun i hi => .inl (by show (([] : List Int).length : Int) + 0 ≤ most; simp; omega), by show (0 : Int) ≤ most; omega⟩
def newWp (wb : Nat → Nat) (k j : Nat) : Value := if j < k then .pointer (some ⟨wb j, 0, none⟩) else .pointer none
def newCells (mm : Int) (bt : Nat) (wb : Nat → Nat) (k : Nat) (most : Int) : Array Value :=
  #[.int .i64 mm, .pointer (some ⟨bt, 0, none⟩), newWp wb k 0, newWp wb k 1, newWp wb k 2, newWp wb k 3, newWp wb k 4, newWp wb k 5, newWp wb k 6, newWp wb k 7,
    .int .i64 0, .int .i64 0, .int .i64 0, .int .i64 0, .int .i64 0, .int .i64 0, .int .i64 0, .int .i64 0, .int .i64 most, .slice none 0 0]
theorem newCells_set {mm most : Int} {bt : Nat} {wb : Nat → Nat} {k : Nat} (h : k < 8) (b : Nat) : (newCells mm bt wb k most).setIfInBounds (2 + k) (.pointer (some ⟨b, 0, none⟩)) = newCells mm bt (setAt wb k b) (k + 1) most := by
  rcases lt8 h with rfl | rfl | rfl | rfl | rfl | rfl | rfl | rfl <;> rfl
theorem newCells_wb {mm most : Int} {bt : Nat} {wb : Nat → Nat} {k : Nat} (h : k < 8) (b : Nat) : newCells mm bt (setAt wb k b) k most = newCells mm bt wb k most := by
  rcases lt8 h with rfl | rfl | rfl | rfl | rfl | rfl | rfl | rfl <;> rfl
theorem newCells_at {mm most : Int} {bt : Nat} {wb : Nat → Nat} {k : Nat} (h : k < 8) : (newCells mm bt wb k most)[2 + k]? = some (.pointer none) := by
  rcases lt8 h with rfl | rfl | rfl | rfl | rfl | rfl | rfl | rfl <;> rfl
theorem newCells_8 {mm most : Int} {bt : Nat} {wb : Nat → Nat} : newCells mm bt wb 8 most = recCells mm bt wb (fun _ => 0) most (.slice none 0 0) := rfl
def NewS (rb : Nat) (mm most : Int) (bt bs : Nat) (wb : Nat → Nat) (kc kw : Nat) : RSlot → World → (Nat → Prop) → Prop
  | .top => fun w s => s rb ∧ Blk w rb 86 (newCells mm bt wb kc most)
  | .tab => fun w s => (s bt ∧ s bs) ∧ TabBuf.Tb w bt bs most 0 (fun _ => none)
  | .win j => fun w s => j < kw → WinO (wb j) most (1, []) w s
  | _ => fun _ _ => True
theorem NewS.comp (rb : Nat) (mm most : Int) (bt bs : Nat) (wb : Nat → Nat) (kc kw : Nat) : ∀ j, Comp (NewS rb mm most bt bs wb kc kw j)
  | .top => ⟨fun w s t h hst => ⟨hst _ h.1, h.2⟩, fun w w' S s h m hs => ⟨h.1, h.2.mod m (hs _ h.1)⟩⟩
  | .tab => ⟨fun w s t h hst => ⟨⟨hst _ h.1.1, hst _ h.1.2⟩, h.2⟩, fun w w' S s h m hs => ⟨h.1, h.2.mod m (hs _ h.1.1) (hs _ h.1.2)⟩⟩
  | .win i => ⟨fun w s t h hst hi => (WinO.comp _ _ _).up _ _ _ (h hi) hst, fun w w' S s h m hs hi => (WinO.comp _ _ _).keep _ _ _ _ (h hi) m hs⟩
  | .buf k => ⟨fun _ _ _ h _ => h, fun _ _ _ _ h _ _ => h⟩
  | .out => ⟨fun _ _ _ h _ => h, fun _ _ _ _ h _ _ => h⟩
  | .dat => ⟨fun _ _ _ h _ => h, fun _ _ _ _ h _ _ => h⟩
/-- All parts, all new. -/
def NewX (rb : Nat) (mm most : Int) (bt bs : Nat) (wb : Nat → Nat) (kc kw : Nat) (B : Nat) (w : World) : Prop :=
  ∃ ow : Nat → Option RSlot, Fam (NewS rb mm most bt bs wb kc kw) w ow ∧ ∀ k i, ow k = some i → B ≤ k
theorem NewX.win {rb : Nat} {mm most : Int} {bt bs : Nat} {wb : Nat → Nat} {k B : Nat} {w w' : World} (h : NewX rb mm most bt bs wb k k B w) (hk : k < 8) (hB : B ≤ w.heap.size) (m : Mod NoB w w') {bw : Nat} (hw : WinB w' w.heap.size bw most 1 (.slice none 0 0) []) :
    NewX rb mm most bt bs (setAt wb k bw) k (k + 1) B w' := by
  obtain ⟨ow, h1, h2⟩ := h
  refine ⟨owAdd ow (.win k) w w', ?_, fun j i hj => ?_⟩
  · refine h1.step (NewS.comp _ _ _ _ _ _ _ _) (.win k) (m.mono (fun _ _ e => e.elim)) (S := fun _ => False) (fun _ _ e => e.elim) (fun _ => ?_) (NewS.comp _ _ _ _ _ _ _ _ _) fun j hj => ?_
    · show WinO (setAt wb k bw k) most (1, []) w' _
      rw [setAt, if_pos rfl]
      exact ⟨_, ⟨hw.blk, Own.nil, hw.apart, Nat.zero_le _, hw.ok, hw.room, hw.small⟩, .inr ⟨hw.base, hw.blk.lt⟩, fun z hz => (by cases hz)⟩
    · cases j with
      | top =>
        funext w s
        show (s rb ∧ Blk w rb _ (newCells mm bt (setAt wb k bw) k most)) = _
        rw [newCells_wb hk]
        rfl
      | win j =>
        have hne : j ≠ k := fun e => hj (by rw [e])
        funext w s
        show (j < k + 1 → WinO (setAt wb k bw j) most (1, []) w s) = (j < k → WinO (wb j) most (1, []) w s)
        rw [setAt, if_neg hne]
        have : j < k + 1 ↔ j < k := by omega
        simp only [this]
      | _ => rfl
  · unfold owAdd at hj
    split at hj
    · omega
    · exact h2 j i hj
theorem NewX.top {rb : Nat} {mm most : Int} {bt bs : Nat} {wb : Nat → Nat} {kc kw B : Nat} {w : World} (h : NewX rb mm most bt bs wb kc kw B w) : Blk w rb 86 (newCells mm bt wb kc most) := by
  obtain ⟨ow, h1, h2⟩ := h
  exact (h1.each .top).2
theorem NewX.set {rb : Nat} {mm most : Int} {bt bs : Nat} {wb : Nat → Nat} {k B bw : Nat} {w : World} (h : NewX rb mm most bt bs (setAt wb k bw) k (k + 1) B w) (hk : k < 8) (hB : B ≤ w.heap.size) : NewX rb mm most bt bs (setAt wb k bw) (k + 1) (k + 1) B (w.setCell ⟨rb, 2 + k, none⟩ (.pointer (some ⟨bw, 0, none⟩))) := by
  obtain ⟨ow, h1, h2⟩ := h
  have hr : ow rb = some .top := (h1.each .top).1
  have hz : (w.setCell ⟨rb, 2 + k, none⟩ (.pointer (some ⟨bw, 0, none⟩))).heap.size = w.heap.size := by simp [World.setCell]
  refine ⟨owAdd ow .top w (w.setCell ⟨rb, 2 + k, none⟩ (.pointer (some ⟨bw, 0, none⟩))), ?_, fun j i hj => ?_⟩
  · refine h1.step (NewS.comp _ _ _ _ _ _ _ _) .top ((Mod.refl (fun k => k = rb) w).setCell (fun _ => rfl) _) (fun z _ e => by rw [e]; exact hr) ⟨.inl hr, ?_⟩ (NewS.comp _ _ _ _ _ _ _ _ _) fun j hj => ?_
    · have := (h1.each .top).2.set (2 + k) (.pointer (some ⟨bw, 0, none⟩))
      rw [newCells_set hk] at this
      have e : setAt (setAt wb k bw) k bw = setAt wb k bw := by
        funext j; unfold setAt; split <;> rfl
      rw [e] at this
      exact this
    · cases j <;> first | rfl | exact absurd rfl hj
  · unfold owAdd at hj
    split at hj
    · omega
    · exact h2 j i hj
theorem NewX.later {rb : Nat} {mm most : Int} {bt bs : Nat} {wb : Nat → Nat} {kc kw B : Nat} {w w' : World} (h : NewX rb mm most bt bs wb kc kw B w) (m : Mod NoB w w') : NewX rb mm most bt bs wb kc kw B w' := by
  obtain ⟨ow, h1, h2⟩ := h
  exact ⟨ow, h1.later (NewS.comp _ _ _ _ _ _ _ _) m, h2⟩
theorem NewX.rec {rb : Nat} {mm most : Int} {bt bs : Nat} {wb : Nat → Nat} {B : Nat} {w : World} (h : NewX rb mm most bt bs wb 8 8 B w) : RecO rb (newRec most mm) w (fun k => B ≤ k ∧ k < w.heap.size) := by
  obtain ⟨ow, h1, h2⟩ := h
  refine ⟨⟨bt, bs, fun _ => none, wb, fun _ => 0, .slice none 0 0, .slice none 0 0, [], []⟩, ⟨ow, h1.turn (fun j hj => ?_), fun k i hk => ⟨h2 k i hk, h1.old k i hk⟩⟩, ⟨fun _ => rfl, rfl, rfl⟩⟩
  cases j with
  | top => exact hj
  | tab => exact hj
  | win i => exact hj
  | buf k => exact fun b hb => (by cases hb)
  | out => exact ⟨fun z hz => (by cases hz), Own.nil⟩
  | dat => exact ⟨rfl, fun p hp => (by cases hp), List.Pairwise.nil⟩
theorem newRecNo (most maxMsg : Int) (w : World) (h : ¬ (1 ≤ most ∧ most ≤ 10000 ∧ 0 ≤ maxMsg ∧ maxMsg ≤ 20000)) : Calls Try.prog 8 #[.int .i64 most, .int .i64 maxMsg] w fun e w' => e = .returned (.tuple #[.pointer none, .int .i64 1]) ∧ w = w' := by
  have HM := Lib.hid (mayNo most maxMsg w h)
  clear h
  go_enter Try.func8, Try.ntmps8
  go_wp2_with fail
  refine HM.out.mono ?_
  rintro e w2 ⟨rfl, rfl⟩
  go_wp2_with fail
  go_ret2
  exact ⟨rfl, rfl⟩
theorem newRecW (most maxMsg : Int) (w : World) (h : 1 ≤ most ∧ most ≤ 10000 ∧ 0 ≤ maxMsg ∧ maxMsg ≤ 20000) :
    Calls Try.prog 8 #[.int .i64 most, .int .i64 maxMsg] w fun e w' => ∃ rb, e = .returned (.tuple #[.pointer (some ⟨rb, 0, none⟩), .int .i64 0]) ∧ RecO rb (newRec most maxMsg) w' (Ext NoB w w') ∧ Mod NoB w w' := by
  have HM := Lib.hid (mayYes most maxMsg w h)
  have HT := Lib.hid (TabBuf.newT most w h.1 (by omega))
  have HH := Lib.hid h
  clear h
  go_enter Try.func8, Try.ntmps8
  go_wp2_with fail
  refine HM.out.mono ?_
  rintro e w2 ⟨rfl, rfl⟩
  go_wp2_with fail
  refine HT.out.mono ?_
  rintro e w2 ⟨bt, bs, rfl, ht, hbt, hbs, m2⟩
  have HM2 := Lib.hid m2
  have HTB := Lib.hid ht
  have HB1 := Lib.hid hbt
  have HB2 := Lib.hid hbs
  clear m2 ht hbt hbs
  go_wp2_with fail
  have hinit : NewX w2.heap.size maxMsg most bt bs (fun _ => 0) 0 0 w.heap.size (w2.alloc (.cells (newCells maxMsg bt (fun _ => 0) 0 most) 86)) := by
    have hlt := HTB.out.lt
    have hs2 := HM2.out.size
    have ha := (Mod.refl NoB w2).alloc (.cells (newCells maxMsg bt (fun _ => 0) 0 most) 86)
    refine ⟨fun z => if z = bt ∨ z = bs then some .tab else if z = w2.heap.size then some .top else none, ⟨fun j => ?_, fun z i hz => ?_⟩, fun z i hz => ?_⟩
    · cases j with
      | top =>
        refine ⟨?_, Blk.new _ _ _⟩
        show (if w2.heap.size = bt ∨ w2.heap.size = bs then some RSlot.tab else if w2.heap.size = w2.heap.size then some .top else none) = some .top
        rw [if_neg (by omega), if_pos rfl]
      | tab =>
        refine ⟨⟨?_, ?_⟩, HTB.out.mod ha (fun e => e) (fun e => e)⟩
        · show (if bt = bt ∨ bt = bs then some RSlot.tab else _) = _
          rw [if_pos (.inl rfl)]
        · show (if bs = bt ∨ bs = bs then some RSlot.tab else _) = _
          rw [if_pos (.inr rfl)]
      | win j => exact fun e => absurd e (Nat.not_lt_zero _)
      | buf j => trivial
      | out => trivial
      | dat => trivial
    · change (if z = bt ∨ z = bs then some RSlot.tab else if z = w2.heap.size then some .top else none) = some i at hz
      have hsa : (w2.alloc (.cells (newCells maxMsg bt (fun _ => 0) 0 most) 86)).heap.size = w2.heap.size + 1 := by simp
      rw [hsa]
      split at hz
      · omega
      · split at hz
        · omega
        · cases hz
    · have h1 := HB1.out
      have h2 := HB2.out
      change (if z = bt ∨ z = bs then some RSlot.tab else if z = w2.heap.size then some .top else none) = some i at hz
      split at hz
      · omega
      · split at hz
        · omega
        · cases hz
  have HI := Lib.hid hinit
  have HM3 := Lib.hid (HM2.out.alloc (.cells (newCells maxMsg bt (fun _ => 0) 0 most) 86))
  have hrb : w.heap.size ≤ w2.heap.size := HM2.out.size
  obtain ⟨rb, hrbe⟩ : ∃ rb, w2.heap.size = rb := ⟨_, rfl⟩
  rw [hrbe] at hrb HI ⊢
  clear hinit hrbe
  go_loopw [24] (fun q wr => ∃ (k : Nat) (wb : Nat → Nat), q = .int .i64 k ∧ k ≤ 8 ∧ Hid (NewX rb maxMsg most bt bs wb k k w.heap.size wr ∧ Mod NoB w wr)) (fun q _ => 8 - (intOf q).toNat)
  case atStart => exact ⟨0, fun _ => 0, rfl, by omega, Lib.hid ⟨HI.out, HM3.out⟩⟩
  case round =>
    obtain ⟨k, wb, rfl, hk, hrel⟩ := hrel
    by_cases hkn : k < 8
    · have hkz : (k : Int) < 8 := by omega
      have hkz0 : (0 : Int) ≤ (k : Int) := by omega
      have hkd : decide ((k : Int) < 8) = true := by simpa using hkz
      have HN := Lib.hid (fun W : World => newW most W HH.out.1 (by have := HH.out.2.1; omega))
      go_wp2_with fail
      have HRN := Lib.hid (fun (W W' : World) (hm : Mod NoB wr W) (m : Mod NoB W W') (hw : WinB W' W.heap.size W.heap.size most 1 (.slice none 0 0) []) => (hrel.out.1.later hm).win hkn (Nat.le_trans hrel.out.2.size hm.size) m hw)
      go_region_with (go_at_call 34; refine (HN.out _).mono ?_; rintro e w5 ⟨rfl, hw5, hz5, m5⟩; have hx5 := HRN.out _ w5 (Mod.refl NoB wr).drew m5 hw5; have c5 : w5.cell? ⟨rb, 2 + k, none⟩ = some (.pointer none) := (hx5.top.cell (2 + k)).trans (newCells_at hkn); have f5 : w5.frozen? ⟨rb, 2 + k, none⟩ = false := hx5.top.free (2 + k); have HX5 := Lib.hid hx5; have HM5 := Lib.hid m5; clear hx5 m5 hw5)
      go_wp2_with fail
      have hz := hrel.out.2.size
      have hz5' := HM5.out.size
      have HF := Lib.hid (HX5.out.set hkn (Nat.le_trans hz hz5'))
      have HMF := Lib.hid ((hrel.out.2.trans (((Mod.refl NoB wr).drew).trans HM5.out (fun _ _ e => e)) (fun _ _ e => e)).setCell (p := ⟨rb, 2 + k, none⟩) (fun e => by simp only at e; omega) (.pointer (some ⟨wr.drew.heap.size, 0, none⟩)))
      go_roundw
      case rel => exact ⟨k + 1, _, by go_num, by omega, Lib.hid ⟨HF.out, HMF.out⟩⟩
      case measure => simp [intOf]; omega
    · obtain rfl : k = 8 := by omega
      have hkz : ¬ ((8 : Nat) : Int) < 8 := by omega
      have HF := Lib.hid hrel.out.1.rec
      have HMF := Lib.hid hrel.out.2
      clear hrel
      go_wp2_with fail
      go_ret2
      obtain ⟨ad, k1, k2⟩ := HF.out
      exact ⟨rb, rfl, ⟨ad, k1.up (fun _ e => .inr e), k2⟩, HMF.out⟩
end Go.Proofs.Ytddnlbkocmpffaa
