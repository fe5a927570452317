/- reasm.Buf: New, Total, Data; bytes.Equal. -/
import Derived.Test.YtddnlbkocmpffaaZReaP
import Derived.Test.YtddnlbkocmpffaaZFoot
import Derived.Test.YtddnlbkocmpffaaZG2
import Derived.Test.YtddnlbkocmpffaaZG0
namespace Go.Proofs.Ytddnlbkocmpffaa
open Go.RowKit
set_option linter.unusedVariables false
set_option maxHeartbeats 4000000
set_option maxRecDepth 100000
theorem flat_B (xs : List Int) : xs.flatMap encB = xs.map (Value.int .u8) := by
  induction xs with
  | nil => rfl
  | cons x xs ih => rw [List.flatMap_cons, ih]; rfl
def zerosB (n : Nat) : Array Value := ((List.replicate n (0 : Int)).flatMap encB).toArray
theorem make_bytes (n : Nat) (hn : n ≤ 1000000) (w : World) : (Instr.makeSlice 30 (.int .i64 (n : Int)) (.int .i64 (n : Int))).run Try.prog w = .ok (.slice (some ⟨w.heap.size, 0, none⟩) n n) (w.alloc (.cells (zerosB n) 5)) := by
  obtain ⟨i, hi, hz, hs, hb⟩ := info_parts (show (Try.prog.info? 5).map (fun i => (i.zero, i.size, i.bytes)) = some (some (.int .u8 0), 1, 1) by kernel_rfl)
  have := run_make_rowN (P := Try.prog) 30 5 i _ Try.underlying30 hi hz .i64 .i64 n n (Nat.le_refl _) (by rw [hb]; omega) (by omega) w
  rw [hs] at this
  rw [this]
  congr 3
  apply Array.ext_getElem?
  intro k
  unfold zerosB
  rw [flat_B]
  rcases Nat.lt_or_ge k n with hk | hk
  · rw [made_get _ _ _ (by omega)]
    simp [Value.cells, hk, Nat.mod_one]
  · rw [Array.getElem?_eq_none (by rw [made_size]; omega)]
    simp [hk]
theorem Own.zeros (w : World) (n : Nat) (hn : n ≤ 1000000) : Own (w.alloc (.cells (zerosB n) 5)) w.heap.size 5 1 encB (.slice (some ⟨w.heap.size, 0, none⟩) n n) (List.replicate n 0) := by
  have := Own.mk (w := w.alloc (.cells (zerosB n) 5)) (B := w.heap.size) (T := 5) (g := w.heap.size) (cap := n) (cur := zerosB n) (xs := List.replicate n (0 : Int)) encB_len (heap_alloc_new w _) (Nat.le_refl _) (by simp) (by unfold maxLen; omega) (by unfold zerosB; rw [flat_B]; simp) ⟨[], by unfold zerosB; simp⟩
  rwa [List.length_replicate] at this
/-- The string of bytes that are read. -/
theorem run_string_has {P : Program} {w : World} {B : Nat} {e src dst : TypeId} {v : Value} {xs : List Int} (hs : P.underlying src = some (.slice e)) (he : P.underlying e = some (.int .u8)) (hd : P.underlying dst = some .string)
    (h : Has w B 1 encB v xs) : (convert src dst v).run P w = .ok (.string (strOfNums xs)) w := by
  obtain ⟨A, cap, rfl, h1, h2, h3, h4⟩ := h
  cases A with
  | none =>
    have := h2 rfl
    obtain rfl : xs = [] := List.eq_nil_of_length_eq_zero (by omega)
    exact run_convert_bytes_nil w src e hs he 0 _ dst hd
  | some ad =>
    rcases Nat.eq_zero_or_pos xs.length with h0 | h0
    · obtain rfl : xs = [] := List.eq_nil_of_length_eq_zero h0
      rw [run_convert_bytes_string w src dst e _ _ _ hs he hd]
      simp [Conv.bytesToString, strOfNums, loadCells, loadCellsFrom]
      rfl
    · obtain ⟨ad', e1, hb, hc⟩ := h3.2 h0
      obtain rfl := Option.some.inj e1
      obtain ⟨g, off, el⟩ := ad
      have := (h4 _ rfl h0).1
      simp only at this
      subst this
      refine run_convert_bytes_arg w src e hs he g off xs.length cap xs rfl (fun i hi => ?_) dst hd
      have := hc i (.int .u8 (xs.getD i 0)) (by rw [flat_B, List.getElem?_map, List.getElem?_eq_getElem hi]; simp [List.getD, List.getElem?_eq_getElem hi])
      rwa [Go.WideShapes.add_plain] at this
theorem equalW (v u : Value) (xs ys : List Int) (w : World) (B B' : Nat) (h1 : Has w B 1 encB v xs) (h2 : Has w B' 1 encB u ys) (b1 : Byt xs) (b2 : Byt ys) :
    Calls Try.prog 63 #[v, u] w fun e w' => e = .returned (.bool (decide (xs = ys))) ∧ w = w' := by
  have q1 := run_string_has Try.underlying30 Try.underlying5 Try.underlying9 h1
  have q2 := run_string_has Try.underlying30 Try.underlying5 Try.underlying9 h2
  obtain ⟨A, c, rfl, -⟩ := h1.form
  obtain ⟨A', c', rfl, -⟩ := h2.form
  have hi := strOfNums_inj b1 b2
  by_cases h : xs = ys
  · have he : strOfNums xs = strOfNums ys := hi.2 h
    rw [he] at q1
    rw [decide_eq_true h]
    generalize strOfNums ys = s at *
    generalize xs.length = n at *
    generalize ys.length = n' at *
    clear h he hi h1 h2 b1 b2
    go_enter Try.func63, Try.ntmps63
    go_wp2
    go_ret
    exact ⟨rfl, rfl⟩
  · have he : ¬ strOfNums xs = strOfNums ys := fun e => h (hi.1 e)
    rw [decide_eq_false h]
    generalize strOfNums xs = s at *
    generalize strOfNums ys = s' at *
    generalize xs.length = n at *
    generalize ys.length = n' at *
    have hl : (s.toList == s'.toList) = false := by
      rw [beq_eq_false_iff_ne, ByteArray.toList_eq, ByteArray.toList_eq]
      intro e
      exact he (ByteArray.ext (Array.toList_inj.1 e))
    clear h he hi h1 h2 b1 b2
    go_enter Try.func63, Try.ntmps63
    go_wp2
    go_ret
    exact ⟨rfl, rfl⟩
/-- A buffer in memory, within blocks. -/
structure BufB (w : World) (s : Nat → Prop) (bb : Nat) (b : BufA) (sb : Nat) (bv sv : Value) : Prop where
  blk : Blk w bb 127 #[bv, .pointer (some ⟨sb, 0, none⟩)]
  own : Own w 0 5 1 encB bv b.bs
  set : SetB w 0 sb b.bs.length sv b.l
  fb : s bb
  fs : s sb
  fv : FootV s bv
  fsv : FootV s sv
  ne1 : bb ≠ sb
  ne2 : bv.ownBlock ≠ some bb
  ne3 : bv.ownBlock ≠ some sb
  ne4 : sv.ownBlock ≠ some bb
  ne5 : ∀ k, bv.ownBlock = some k → sv.ownBlock ≠ some k
  ok : BufOk b
  made : ∃ g, bv = .slice (some ⟨g, 0, none⟩) b.bs.length b.bs.length
def BufO (bb : Nat) (b : BufA) (w : World) (s : Nat → Prop) : Prop := ∃ sb bv sv, BufB w s bb b sb bv sv
theorem BufO.comp (bb : Nat) (b : BufA) : Comp (BufO bb b) where
  up := fun w s t ⟨sb, bv, sv, h⟩ hst => ⟨sb, bv, sv, h.blk, h.own, h.set, hst _ h.fb, hst _ h.fs, fun k hk => hst _ (h.fv k hk), fun k hk => hst _ (h.fsv k hk), h.ne1, h.ne2, h.ne3, h.ne4, h.ne5, h.ok, h.made⟩
  keep := fun w w' S s ⟨sb, bv, sv, h⟩ m hs => ⟨sb, bv, sv, h.blk.mod m (hs _ h.fb), h.own.mod m (fun k hk => hs _ (h.fv k hk)), h.set.mod m (hs _ h.fs) (fun k hk => hs _ (h.fsv k hk)), h.fb, h.fs, h.fv, h.fsv, h.ne1, h.ne2, h.ne3, h.ne4, h.ne5, h.ok, h.made⟩
theorem SetB.le {w : World} {B sb : Nat} {tot : Int} {v : Value} {l : List (Int × Int)} (h : SetB w B sb tot v l) : SetB w 0 sb tot v l := ⟨h.blk, h.own.le (Nat.zero_le _), h.apart, Nat.zero_le _, h.ok, h.most⟩
theorem bufNewW (tot : Nat) (most : Int) (w : World) (h1 : (tot : Int) ≤ most) (h2 : most ≤ 20000) :
    Calls Try.prog 60 #[.int .i64 tot, .int .i64 most] w fun e w' => ∃ bb, e = .returned (.tuple #[.pointer (some ⟨bb, 0, none⟩), .int .i64 0]) ∧ BufO bb (newBuf tot) w' (Ext NoB w w') ∧ Mod NoB w w' := by
  have hn := setNewW tot w (by omega) (by omega)
  have HN := Lib.hid hn
  have hmk := make_bytes tot (by omega)
  have hg1 : ¬ ((tot : Int) < 0) := by omega
  have hg2 : ¬ (1073741824 < (tot : Int)) := by omega
  have hg3 : ¬ (most < 0) := by omega
  have hg4 : ¬ (1073741824 < most) := by omega
  have hg5 : ¬ (most < (tot : Int)) := by omega
  have ht : tot ≤ 20000 := by omega
  clear hn h1 h2
  go_enter Try.func60, Try.ntmps60
  go_wp2_with fail
  refine HN.out.mono ?_
  rintro e w2 ⟨rfl, hs2, hz2, m2⟩
  have HS := Lib.hid hs2
  have HM := Lib.hid m2
  have HZ := Lib.hid hz2
  clear hs2 m2 hz2
  go_wp2_with fail
  go_ret2
  refine ⟨_, rfl, ?_, (HM.out.alloc _).alloc _⟩
  have hz := HZ.out
  have h3 : (w2.alloc (.cells (zerosB tot) 5)).heap.size = w2.heap.size + 1 := by simp
  have h4 : ((w2.alloc (.cells (zerosB tot) 5)).alloc (.cells #[.slice (some ⟨w2.heap.size, 0, none⟩) tot tot, .pointer (some ⟨w.heap.size, 0, none⟩)] 127)).heap.size = w2.heap.size + 2 := by simp
  have hm3 := (Mod.refl NoB w2).alloc (.cells (zerosB tot) 5)
  have hm4 := (Mod.refl NoB (w2.alloc (.cells (zerosB tot) 5))).alloc (.cells #[.slice (some ⟨w2.heap.size, 0, none⟩) tot tot, .pointer (some ⟨w.heap.size, 0, none⟩)] 127)
  refine ⟨w.heap.size, .slice (some ⟨w2.heap.size, 0, none⟩) tot tot, .slice none 0 0, ?_⟩
  have hl : (newBuf tot).bs.length = tot := by simp [newBuf]
  refine ⟨?_, ((Own.zeros w2 tot (by omega)).mod hm4 (fun _ _ e => e)).le (Nat.zero_le _), ?_, ?_, ?_, ?_, ?_, ?_, ?_, ?_, ?_, ?_, newBuf_ok ht, ⟨_, by rw [hl]⟩⟩
  · exact Blk.newAt h3 _ _
  · rw [hl]
    exact ((HS.out.mod hm3 (fun e => e) (fun _ _ e => e)).mod hm4 (fun e => e) (fun _ _ e => e)).le
  all_goals
    clear hm3 hm4 hl HS HM HN
  all_goals first
    | exact .inr ⟨by omega, by omega⟩
    | (intro k hk; simp only [Value.ownBlock, Option.some.injEq] at hk; exact .inr ⟨by omega, by omega⟩)
    | (intro k hk; simp only [Value.ownBlock] at hk; cases hk; done)
    | (intro k hk e; simp only [Value.ownBlock] at e; cases e; done)
    | (intro e; simp only [Value.ownBlock] at e; cases e; done)
    | (intro e; simp only [Value.ownBlock, Option.some.injEq] at e; omega)
    | omega
theorem bufTotalW (bb : Nat) (b : BufA) (w : World) (s : Nat → Prop) (h : BufO bb b w s) :
    Calls Try.prog 57 #[.pointer (some ⟨bb, 0, none⟩)] w fun e w' => e = .returned (.int .i64 (b.bs.length : Nat)) ∧ w = w' := by
  obtain ⟨sb, bv, sv, h⟩ := h
  obtain ⟨A, cap, rfl, -, -⟩ := h.own.form
  have c0 : w.cell? ⟨bb, 0, none⟩ = some (.slice A b.bs.length cap) := h.blk.cell 0
  clear h
  go_enter Try.func57, Try.ntmps57
  go_wp2
  go_ret
  exact ⟨rfl, rfl⟩
theorem bufDataNo (bb : Nat) (b : BufA) (w : World) (s : Nat → Prop) (h : BufO bb b w s) (hf : fullBuf b = false) :
    Calls Try.prog 38 #[.pointer (some ⟨bb, 0, none⟩)] w fun e w' => e = .returned (.tuple #[.slice none 0 0, .bool false]) ∧ Mod NoB w w' := by
  obtain ⟨sb, bv, sv, h⟩ := h
  have HS := Lib.hid (fullW sb 0 b.bs.length sv b.l w h.set)
  have c1 : w.cell? ⟨bb, 1, none⟩ = some (.pointer (some ⟨sb, 0, none⟩)) := h.blk.cell 1
  unfold fullBuf at hf
  rw [hf] at HS
  clear h hf
  go_enter Try.func38, Try.ntmps38
  go_wp2_with fail
  refine HS.out.mono ?_
  rintro e w2 ⟨rfl, m2⟩
  have HM := Lib.hid m2
  clear m2
  go_wp2_with fail
  go_ret2
  exact ⟨rfl, HM.out⟩
theorem bufDataW (bb : Nat) (b : BufA) (w : World) (s : Nat → Prop) (h : BufO bb b w s) (hf : fullBuf b = true) :
    Calls Try.prog 38 #[.pointer (some ⟨bb, 0, none⟩)] w fun e w' => ∃ v, e = .returned (.tuple #[v, .bool true]) ∧ Own w' w.heap.size 5 1 encB v b.bs ∧ Mod NoB w w' := by
  obtain ⟨sb, bv, sv, h⟩ := h
  have HS := Lib.hid (fullW sb 0 b.bs.length sv b.l w h.set)
  have c1 : w.cell? ⟨bb, 1, none⟩ = some (.pointer (some ⟨sb, 0, none⟩)) := h.blk.cell 1
  unfold fullBuf at hf
  rw [hf] at HS
  have HH := Lib.hid h
  clear h hf
  go_enter Try.func38, Try.ntmps38
  go_wp2_with fail
  refine HS.out.mono ?_
  rintro e w2 ⟨rfl, m2⟩
  have HM := Lib.hid m2
  have ho := HH.out.own.mod m2 (fun _ _ e => e)
  have HC := Lib.hid (SlB.cloneW bv b.bs w2 ho.has (by have := HH.out.ok.most; omega))
  have c0 : w2.cell? ⟨bb, 0, none⟩ = some bv := (HH.out.blk.mod m2 (fun e => e)).cell 0
  obtain ⟨A, cap, rfl, -, -⟩ := HH.out.own.form
  clear m2 ho
  go_wp2_with fail
  refine HC.out.mono ?_
  rintro e w3 ⟨v, rfl, h3, m3⟩
  have H3 := Lib.hid (h3.le HM.out.size)
  have HM3 := Lib.hid (HM.out.trans m3 (fun _ _ e => e))
  clear h3 m3
  obtain ⟨A3, cap3, rfl, -, -⟩ := H3.out.form
  go_wp2_with fail
  go_ret2
  exact ⟨_, rfl, H3.out, HM3.out⟩
end Go.Proofs.Ytddnlbkocmpffaa
