/- mizzenref16.Senders: in memory; NewSenders, find, Get. -/
import Derived.Test.YtddnlbkocmpffaaZSndI
import Derived.Test.YtddnlbkocmpffaaZSndG
namespace Go.Proofs.Ytddnlbkocmpffaa
open Go.RowKit
set_option linter.unusedVariables false
set_option maxHeartbeats 4000000
set_option maxRecDepth 100000
abbrev encR4 (o : OutV) : List Value := [.int .u64 o.id, .int .i64 o.dst, o.dv, .int .i64 o.st]
theorem encR4_len (o : OutV) : (encR4 o).length = 4 := rfl
def DatR (B : Nat) (o : OutV) (a : OutA) (w : World) : Prop := o.id = a.id ∧ o.dst = a.dst ∧ o.st = a.st ∧ Has w B 1 encB o.dv a.data
/-- What the document's Senders keep: their own block, and a row, in blocks that are not below B; the bytes lie below B. -/
structure RSnd (B rb : Nat) (lv : Value) (ovs : List OutV) (S : SndA) (w : World) : Prop where
  blk : Blk w rb 65 #[.int .i64 S.most, .int .i64 S.maxMsg, .int .u64 S.gm, .int .u64 S.gl, lv]
  row : Own w B 60 4 encR4 lv ovs
  len : ovs.length = S.l.length
  dat : ∀ p ∈ ovs.zip S.l, DatR B p.1 p.2 w
  hB : B ≤ rb
  apart : lv.ownBlock ≠ some rb
section
variable {B rb : Nat} {lv : Value} {ovs : List OutV} {S : SndA} {w w' : World}
theorem RSnd.sz (h : RSnd B rb lv ovs S w) : B ≤ w.heap.size := Nat.le_trans h.hB (Nat.le_of_lt h.blk.lt)
theorem DatR.keep {Z : Nat → Prop} {o : OutV} {a : OutA} (h : DatR B o a w) (m : Mod Z w w') (hB : B ≤ w.heap.size) (hZ : ∀ k, Z k → B ≤ k) : DatR B o a w' :=
  ⟨h.1, h.2.1, h.2.2.1, h.2.2.2.keep fun p hp => m.cell (Nat.lt_of_lt_of_le hp hB) fun e => by have := hZ _ e; omega⟩
theorem RSnd.keep {Z : Nat → Prop} (h : RSnd B rb lv ovs S w) (m : Mod Z w w') (hZ : ∀ k, Z k → B ≤ k) (h1 : ¬ Z rb) (h2 : ∀ k, lv.ownBlock = some k → ¬ Z k) : RSnd B rb lv ovs S w' :=
  ⟨h.blk.mod m h1, h.row.mod m h2, h.len, fun p hp => (h.dat p hp).keep m h.sz hZ, h.hB, h.apart⟩
theorem RSnd.later (h : RSnd B rb lv ovs S w) (m : Mod NoB w w') : RSnd B rb lv ovs S w' := h.keep m (fun _ e => e.elim) (fun e => e) (fun _ _ e => e)
theorem RSnd.ats (h : RSnd B rb lv ovs S w) {k : Nat} {a : OutA} (hk : S.l[k]? = some a) : ∃ o : OutV, ovs[k]? = some o ∧ o.id = a.id ∧ o.dst = a.dst ∧ o.st = a.st ∧ Has w B 1 encB o.dv a.data := by
  have hkl := (List.getElem?_eq_some_iff.1 hk).1
  have ho := List.getElem?_eq_getElem (show k < ovs.length by rw [h.len]; exact hkl)
  have hd := h.dat (ovs[k]'(by rw [h.len]; exact hkl), a) (List.mem_iff_getElem?.2 ⟨k, List.getElem?_zip_eq_some.2 ⟨ho, hk⟩⟩)
  exact ⟨_, ho, hd.1, hd.2.1, hd.2.2.1, hd.2.2.2⟩
theorem rnewNo (most maxMsg last : Int) (w : World) (h : ¬ sndMay most maxMsg last) : Calls Try.prog 15 #[.int .i64 most, .int .i64 maxMsg, .int .u64 last] w fun e w' => e = .returned (.tuple #[.pointer none, .int .i64 1]) ∧ w = w' := by
  unfold sndMay at h
  have hsp : most < 1 ∨ (¬ most < 1 ∧ 10000 < most) ∨ (¬ most < 1 ∧ ¬ 10000 < most ∧ maxMsg < 0) ∨ (¬ most < 1 ∧ ¬ 10000 < most ∧ ¬ maxMsg < 0 ∧ 20000 < maxMsg) ∨
      (¬ most < 1 ∧ ¬ 10000 < most ∧ ¬ maxMsg < 0 ∧ ¬ 20000 < maxMsg ∧ last < 1) ∨ (¬ most < 1 ∧ ¬ 10000 < most ∧ ¬ maxMsg < 0 ∧ ¬ 20000 < maxMsg ∧ ¬ last < 1 ∧ 1152921504606846976 < last) := by omega
  clear h
  rcases hsp with h1 | ⟨h1, h2⟩ | ⟨h1, h2, h3⟩ | ⟨h1, h2, h3, h4⟩ | ⟨h1, h2, h3, h4, h5⟩ | ⟨h1, h2, h3, h4, h5, h6⟩
  all_goals
    go_enter Try.func15, Try.ntmps15
    go_wp2
    go_ret2
    exact ⟨rfl, rfl⟩
theorem rnewW (most maxMsg last : Int) (w : World) (h : sndMay most maxMsg last) (hB : B ≤ w.heap.size) : Calls Try.prog 15 #[.int .i64 most, .int .i64 maxMsg, .int .u64 last] w fun e w' => e = .returned (.tuple #[.pointer (some ⟨w.heap.size, 0, none⟩), .int .i64 0]) ∧ RSnd B w.heap.size (.slice none 0 0) [] (newSnd most maxMsg last) w' ∧ Mod NoB w w' := by
  obtain ⟨⟨a1, a2, a3, a4⟩, a5, a6⟩ := h
  have h1 : ¬ most < 1 := by omega
  have h2 : ¬ 10000 < most := by omega
  have h3 : ¬ maxMsg < 0 := by omega
  have h4 : ¬ 20000 < maxMsg := by omega
  have h5 : ¬ last < 1 := by omega
  have h6 : ¬ 1152921504606846976 < last := by omega
  clear a1 a2 a3 a4 a5 a6
  have HB := Lib.hid (Blk.new w 65 #[.int .i64 most, .int .i64 maxMsg, .int .u64 last, .int .u64 0, .slice none 0 0])
  have HM := Lib.hid ((Mod.refl NoB w).alloc (.cells #[.int .i64 most, .int .i64 maxMsg, .int .u64 last, .int .u64 0, .slice none 0 0] 65))
  go_enter Try.func15, Try.ntmps15
  go_wp2
  go_ret2
  exact ⟨rfl, ⟨HB.out, Own.nil, rfl, fun p hp => (by cases hp), hB, fun e => (by cases e)⟩, HM.out⟩
theorem rfindNo (h : RSnd B rb lv ovs S w) (id : Int) (hn : S.l.length ≤ 1000000) (hno : id ∉ idsA S.l) :
    Calls Try.prog 47 #[.pointer (some ⟨rb, 0, none⟩), .int .u64 id] w fun e w' => e = .returned (.int .i64 (-1)) ∧ w = w' := by
  obtain ⟨A, cap, hv, -, -⟩ := h.row.form
  obtain ⟨n, hnn⟩ : ∃ n, S.l.length = n := ⟨_, rfl⟩
  rw [h.len, hnn] at hv
  have c4 : w.cell? ⟨rb, 4, none⟩ = some (.slice A n cap) := by rw [h.blk.cell, ← hv]; rfl
  have HATS := Lib.hid (fun (k : Nat) (a : OutA) (hk : S.l[k]? = some a) => h.ats hk)
  have hrow := h.row
  rw [hv] at hrow
  have HROW := Lib.hid hrow.has
  have HN := Lib.hid hnn
  have HNO := Lib.hid hno
  rw [hnn] at hn
  generalize S.l = l at *
  clear h hrow hv hnn hno
  go_enter Try.func47, Try.ntmps47
  go_wp2_with fail
  go_loopw [5] (fun i wr => ∃ k : Nat, i = .int .i64 k ∧ k ≤ n ∧ wr = w) (fun i _ => n - (intOf i).toNat)
  case atStart => exact ⟨0, rfl, by omega, rfl⟩
  case round =>
    obtain ⟨k, rfl, hk, hwr⟩ := hrel
    subst hwr
    by_cases hkl : k < n
    · have hkz : (k : Int) < (n : Int) := by omega
      have hkz0 : (0 : Int) ≤ (k : Int) := by omega
      have hkx : k < l.length := by rw [HN.out]; exact hkl
      have hx? := List.getElem?_eq_getElem hkx
      obtain ⟨o, ho, e1, -⟩ := HATS.out k _ hx?
      obtain ⟨g, off, rfl, hg, c0⟩ := HROW.out.at_ encR4_len ho
      have hne : ¬ o.id = id := fun e => HNO.out (by
        rw [← e, e1]
        exact List.mem_map.2 ⟨_, List.getElem_mem hkx, rfl⟩)
      have q1 := c0 0 (by omega)
      obtain ⟨oid, odst, odv, ost, one⟩ := o
      dsimp only at hne
      simp only [encR4, List.getElem?_cons_zero, Nat.add_zero] at q1
      have hb : (oid == id) = false := by simp [hne]
      clear c0 hx? ho e1 hkx
      go_wp2_with fail
      go_roundw
      case rel => exact ⟨k + 1, by go_num, by omega, by first | trivial | rfl⟩
      case measure => simp [intOf]; omega
    · obtain rfl : n = k := by omega
      have hkz : ¬ (n : Int) < (n : Int) := by omega
      go_wp2_with fail
      go_ret
      exact ⟨rfl, rfl⟩
theorem rfindYes (h : RSnd B rb lv ovs S w) (id : Int) (hn : S.l.length ≤ 1000000) (hs : (idsA S.l).Pairwise (· < ·)) {k0 : Nat} {a : OutA} (hk0 : S.l[k0]? = some a) (hid : a.id = id) :
    Calls Try.prog 47 #[.pointer (some ⟨rb, 0, none⟩), .int .u64 id] w fun e w' => e = .returned (.int .i64 (k0 : Nat)) ∧ w = w' := by
  obtain ⟨A, cap, hv, -, -⟩ := h.row.form
  obtain ⟨n, hnn⟩ : ∃ n, S.l.length = n := ⟨_, rfl⟩
  rw [h.len, hnn] at hv
  have c4 : w.cell? ⟨rb, 4, none⟩ = some (.slice A n cap) := by rw [h.blk.cell, ← hv]; rfl
  have HATS := Lib.hid (fun (k : Nat) (a : OutA) (hk : S.l[k]? = some a) => h.ats hk)
  have hrow := h.row
  rw [hv] at hrow
  have HROW := Lib.hid hrow.has
  have HN := Lib.hid hnn
  have hkn0 := (List.getElem?_eq_some_iff.1 hk0).1
  rw [hnn] at hn hkn0
  have HK := Lib.hid hk0
  have HID := Lib.hid hid
  have HS := Lib.hid hs
  generalize S.l = l at *
  clear h hrow hv hnn hk0 hid hs
  go_enter Try.func47, Try.ntmps47
  go_wp2_with fail
  go_loopw [5] (fun i wr => ∃ k : Nat, i = .int .i64 k ∧ k ≤ k0 ∧ wr = w) (fun i _ => n - (intOf i).toNat)
  case atStart => exact ⟨0, rfl, by omega, rfl⟩
  case round =>
    obtain ⟨k, rfl, hk, hwr⟩ := hrel
    subst hwr
    have hkl : k < n := by omega
    have hkz : (k : Int) < (n : Int) := by omega
    have hkz0 : (0 : Int) ≤ (k : Int) := by omega
    have hkx : k < l.length := by rw [HN.out]; exact hkl
    have hx? := List.getElem?_eq_getElem hkx
    obtain ⟨o, ho, e1, -⟩ := HATS.out k _ hx?
    obtain ⟨g, off, rfl, hg, c0⟩ := HROW.out.at_ encR4_len ho
    have q1 := c0 0 (by omega)
    by_cases hkk : k = k0
    · obtain rfl := hkk
      have h2 : l[k]'hkx = a := Option.some.inj (hx?.symm.trans HK.out)
      rw [h2, HID.out] at e1
      obtain ⟨oid, odst, odv, ost, one⟩ := o
      dsimp only at e1
      subst e1
      simp only [encR4, List.getElem?_cons_zero, Nat.add_zero] at q1
      clear c0 hx? ho hkx h2 HID HATS
      go_wp2_with fail
      go_ret
      exact ⟨rfl, rfl⟩
    · have hne : ¬ o.id = id := fun e => by
        have h1 : k < (idsA l).length := by unfold idsA; rw [List.length_map]; exact hkx
        have h2 : k0 < (idsA l).length := by unfold idsA; rw [List.length_map, HN.out]; exact hkn0
        have h3 := List.pairwise_iff_getElem.1 HS.out k k0 h1 h2 (by omega)
        have h4 : (idsA l)[k]'h1 = o.id := by rw [e1]; simp [idsA]
        have h5 : (idsA l)[k0]'h2 = id := by
          have h6 := (List.getElem?_eq_some_iff.1 HK.out).2
          simp [idsA, h6, HID.out]
        omega
      obtain ⟨oid, odst, odv, ost, one⟩ := o
      dsimp only at hne
      simp only [encR4, List.getElem?_cons_zero, Nat.add_zero] at q1
      have hb : (oid == id) = false := by simp [hne]
      clear c0 hx? ho e1 hkx
      go_wp2_with fail
      go_roundw
      case rel => exact ⟨k + 1, by go_num, by omega, by first | trivial | rfl⟩
      case measure => simp [intOf]; omega
theorem rgetNo (h : RSnd B rb lv ovs S w) (id : Int) (hn : S.l.length ≤ 1000000) (hno : id ∉ idsA S.l) :
    Calls Try.prog 23 #[.pointer (some ⟨rb, 0, none⟩), .int .u64 id] w fun e w' => e = .returned (.tuple #[.agg #[.int .u64 0, .int .i64 0, .slice none 0 0, .int .i64 0], .bool false]) ∧ Mod NoB w w' := by
  have m0 := (Mod.refl NoB w).alloc (.cells #[.int .u64 0, .int .i64 0, .slice none 0 0, .int .i64 0] 60)
  have HF := Lib.hid (rfindNo (h.later m0) id hn hno)
  have HM0 := Lib.hid m0
  have hB := Blk.new w 60 #[.int .u64 0, .int .i64 0, .slice none 0 0, .int .i64 0]
  have HB := Lib.hid hB
  clear h hno m0 hB
  go_enter Try.func23, Try.ntmps23
  go_wp2_with fail
  refine HF.out.mono ?_
  rintro e w2 ⟨rfl, rfl⟩
  go_wp2_with fail
  refine bodyPost_ret (results_cell_tmp (p := 4) (u := 5) (by kernel_rfl) _ _ w.heap.size 60 #[.int .u64 0, .int .i64 0, .slice none 0 0, .int .i64 0] (0, 0) _ (by kernel_rfl) HB.out Try.underlying60 (by kernel_rfl) (by kernel_rfl)) (by kernel_rfl) ?_
  exact ⟨rfl, HM0.out⟩
theorem rgetYes (h : RSnd B rb lv ovs S w) (id : Int) (hn : S.l.length ≤ 1000000) (hs : (idsA S.l).Pairwise (· < ·)) {k : Nat} {a : OutA} (hk : S.l[k]? = some a) (hid : a.id = id) :
    Calls Try.prog 23 #[.pointer (some ⟨rb, 0, none⟩), .int .u64 id] w fun e w' => (∃ v, e = .returned (.tuple #[.agg #[.int .u64 a.id, .int .i64 a.dst, v, .int .i64 a.st], .bool true]) ∧ Has w' B 1 encB v a.data) ∧ Mod NoB w w' := by
  have m0 := (Mod.refl NoB w).alloc (.cells #[.int .u64 0, .int .i64 0, .slice none 0 0, .int .i64 0] 60)
  have HF := Lib.hid (rfindYes (h.later m0) id hn hs hk hid)
  obtain ⟨o, ho, e1, e2, e3, hdat⟩ := h.ats hk
  have hrow := h.row
  have hkl := (List.getElem?_eq_some_iff.1 ho).1
  obtain ⟨g, cap, hv, hcap, -, hg⟩ := hrow.form1 (by omega)
  obtain ⟨n, hnn⟩ : ∃ n, ovs.length = n := ⟨_, rfl⟩
  rw [hnn] at hv hkl
  have hrl := h.blk.lt
  have hsz := h.sz
  have c4 : w.cell? ⟨rb, 4, none⟩ = some (.slice (some ⟨g, 0, none⟩) n cap) := by rw [h.blk.cell, ← hv]; rfl
  rw [hv] at hrow
  have r0 := hrow.cell encR4_len ho (j := 0) (by omega)
  have r1 := hrow.cell encR4_len ho (j := 1) (by omega)
  have r2 := hrow.cell encR4_len ho (j := 2) (by omega)
  have r3 := hrow.cell encR4_len ho (j := 3) (by omega)
  obtain ⟨oid, dst, dv, st, one⟩ := o
  dsimp only at e1 e2 e3 hdat
  subst e1 e2 e3
  obtain ⟨Ad, cd, rfl, -⟩ := hdat.form
  simp only [encR4, List.getElem?_cons_zero, List.getElem?_cons_succ, Nat.add_zero] at r0 r1 r2 r3
  obtain ⟨ld, hld⟩ : ∃ ld, a.data.length = ld := ⟨_, rfl⟩
  rw [hld] at r2 hdat
  have hkz : (k : Int) < (n : Int) := by omega
  have hkz0 : (0 : Int) ≤ (k : Int) := by omega
  have hB := Blk.new w 60 #[.int .u64 0, .int .i64 0, .slice none 0 0, .int .i64 0]
  obtain ⟨w1, hw1⟩ : ∃ w1, w.alloc (.cells #[.int .u64 0, .int .i64 0, .slice none 0 0, .int .i64 0] 60) = w1 := ⟨_, rfl⟩
  have HW1 := Lib.hid hw1
  rw [hw1] at m0 HF hB
  have c4' := (m0.cell (p := ⟨rb, 4, none⟩) hrl (fun e => e)).trans c4
  have r0' := (m0.cell (p := ⟨g, k * 4, none⟩) hg (fun e => e)).trans r0
  have r1' := (m0.cell (p := ⟨g, k * 4 + 1, none⟩) hg (fun e => e)).trans r1
  have r2' := (m0.cell (p := ⟨g, k * 4 + 2, none⟩) hg (fun e => e)).trans r2
  have r3' := (m0.cell (p := ⟨g, k * 4 + 3, none⟩) hg (fun e => e)).trans r3
  obtain ⟨b0, hb0⟩ : ∃ b0, w.heap.size = b0 := ⟨_, rfl⟩
  rw [hb0] at hB
  have HB0 := Lib.hid hb0
  have d0 : w1.cell? ⟨b0, 0, none⟩ = some (.int .u64 0) := by rw [hB.cell]; rfl
  have d1 : w1.cell? ⟨b0, 1, none⟩ = some (.int .i64 0) := by rw [hB.cell]; rfl
  have d2 : w1.cell? ⟨b0, 2, none⟩ = some (.slice none 0 0) := by rw [hB.cell]; rfl
  have d3 : w1.cell? ⟨b0, 3, none⟩ = some (.int .i64 0) := by rw [hB.cell]; rfl
  have f0 := hB.free 0
  have f1 := hB.free 1
  have f2 := hB.free 2
  have f3 := hB.free 3
  have HB := Lib.hid ((((hB.set 0 (.int .u64 a.id)).set 1 (.int .i64 a.dst)).set 2 (.slice Ad ld cd)).set 3 (.int .i64 a.st))
  have hM3 := ((((m0.setCell (p := ⟨b0, 0, none⟩) (fun e => absurd (show b0 < w.heap.size from e) (by omega)) (.int .u64 a.id)).setCell (p := ⟨b0, 1, none⟩) (fun e => absurd (show b0 < w.heap.size from e) (by omega)) (.int .i64 a.dst)).setCell (p := ⟨b0, 2, none⟩) (fun e => absurd (show b0 < w.heap.size from e) (by omega)) (.slice Ad ld cd)).setCell (p := ⟨b0, 3, none⟩) (fun e => absurd (show b0 < w.heap.size from e) (by omega)) (.int .i64 a.st))
  have HD3 := Lib.hid (hdat.later hM3 hsz)
  have HM3 := Lib.hid hM3
  clear h hs hrow hv hnn hk ho m0 hB hdat hM3 hld r0 r1 r2 r3 c4 hid hw1 hb0
  go_enter Try.func23, Try.ntmps23
  go_wp2_with fail
  rw [HW1.out, HB0.out]
  refine HF.out.mono ?_
  rintro e w2 ⟨rfl, rfl⟩
  go_wp2_with fail
  refine bodyPost_ret (results_cell_tmp (p := 4) (u := 5) (by kernel_rfl) _ _ b0 60 #[.int .u64 a.id, .int .i64 a.dst, .slice Ad ld cd, .int .i64 a.st] (0, 0) _ (by kernel_rfl) HB.out Try.underlying60 (by kernel_rfl) (by kernel_rfl)) (by kernel_rfl) ?_
  exact ⟨⟨_, rfl, HD3.out⟩, HM3.out⟩
end
end Go.Proofs.Ytddnlbkocmpffaa
