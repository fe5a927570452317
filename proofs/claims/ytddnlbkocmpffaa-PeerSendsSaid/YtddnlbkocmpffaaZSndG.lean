/- Senders.Get. -/
import Derived.Test.YtddnlbkocmpffaaZSndF
import Derived.Test.YtddnlbkocmpffaaZG2
import Derived.Laws.Rows
namespace Go.Proofs.Ytddnlbkocmpffaa
open Go.RowKit
set_option linter.unusedVariables false
set_option maxHeartbeats 4000000
set_option maxRecDepth 100000
theorem results_cell_tmp {P : Program} {fn : Func} {p u : Tmp} {ty : TypeId} (h : fn.results = #[.cell p ty, .tmp u]) (tmps : Array Value) (w : World) (g : Nat) (t : TypeId) (cs : Array Value) (fr : Nat × Nat) (d : TypeDesc)
    (hp : tmps.getD p undef = .pointer (some ⟨g, 0, none⟩)) (hg : w.heap[g]? = some (.cells cs t fr))
    (hu : P.underlying ty = some d) (hd : (match d with | .struct _ | .array _ _ => true | _ => false) = true) (hi : (P.info? ty).map (·.size) = some cs.size) :
    (results fn tmps).run P w = .ok (.tuple #[.agg cs, tmps.getD u undef]) w := by
  have hp' : tmps[p]?.getD undef = .pointer (some ⟨g, 0, none⟩) := by simpa using hp
  simp [results, h, hp', asAddr, run_loadVar_row w g t ty cs fr d hg hu hd hi]
section
variable {sb : Nat} {ad : SAd} {S : SndA} {w : World} {s : Nat → Prop}
theorem getNo (h : SndX sb ad S w s) (hl : SLink ad) (id : Int) (hs : (idsV ad.ovs).Pairwise (· < ·)) (hn : ad.ovs.length ≤ 1000000) (hno : id ∉ idsV ad.ovs) :
    Calls Try.prog 22 #[.pointer (some ⟨sb, 0, none⟩), .int .u64 id] w fun e w' => e = .returned (.tuple #[.agg #[.int .u64 0, .int .i64 0, .slice none 0 0, .int .i64 0, .bool false], .bool false]) ∧ Mod NoB w w' := by
  have m0 := (Mod.refl NoB w).alloc (.cells #[.int .u64 0, .int .i64 0, .slice none 0 0, .int .i64 0, .bool false] 56)
  have HF := Lib.hid (findW (h.later m0) hl id hs hn)
  rw [decide_eq_false hno] at HF
  have HM0 := Lib.hid m0
  generalize placeU (idsV ad.ovs) id = R at *
  have hz : w.heap.size < (w.alloc (.cells #[.int .u64 0, .int .i64 0, .slice none 0 0, .int .i64 0, .bool false] 56)).heap.size := by simp
  clear h hs hno m0
  go_enter Try.func22, Try.ntmps22
  go_wp2_with fail
  refine HF.out.mono ?_
  rintro e w2 ⟨rfl, m2⟩
  have hB := (Blk.new w 56 #[.int .u64 0, .int .i64 0, .slice none 0 0, .int .i64 0, .bool false]).mod m2 (fun e => e)
  have HM2 := Lib.hid (HM0.out.trans m2 (fun _ _ e => e))
  have d0 : w2.cell? ⟨w.heap.size, 0, none⟩ = some (.int .u64 0) := by rw [hB.cell]; rfl
  have d1 : w2.cell? ⟨w.heap.size, 1, none⟩ = some (.int .i64 0) := by rw [hB.cell]; rfl
  have d2 : w2.cell? ⟨w.heap.size, 2, none⟩ = some (.slice none 0 0) := by rw [hB.cell]; rfl
  have d3 : w2.cell? ⟨w.heap.size, 3, none⟩ = some (.int .i64 0) := by rw [hB.cell]; rfl
  have d4 : w2.cell? ⟨w.heap.size, 4, none⟩ = some (.bool false) := by rw [hB.cell]; rfl
  have f0 := hB.free 0
  have f1 := hB.free 1
  have f2 := hB.free 2
  have f3 := hB.free 3
  have f4 := hB.free 4
  have HB := Lib.hid (((((hB.set 0 (.int .u64 0)).set 1 (.int .i64 0)).set 2 (.slice none 0 0)).set 3 (.int .i64 0)).set 4 (.bool false))
  have HM3 := Lib.hid (((((HM2.out.setCell (p := ⟨w.heap.size, 0, none⟩) (fun e => absurd e (Nat.lt_irrefl _)) (.int .u64 0)).setCell (p := ⟨w.heap.size, 1, none⟩) (fun e => absurd e (Nat.lt_irrefl _)) (.int .i64 0)).setCell (p := ⟨w.heap.size, 2, none⟩) (fun e => absurd e (Nat.lt_irrefl _)) (.slice none 0 0)).setCell (p := ⟨w.heap.size, 3, none⟩) (fun e => absurd e (Nat.lt_irrefl _)) (.int .i64 0)).setCell (p := ⟨w.heap.size, 4, none⟩) (fun e => absurd e (Nat.lt_irrefl _)) (.bool false))
  clear m2 hB
  go_wp2_with fail
  refine bodyPost_ret (results_cell_tmp (p := 4) (u := 5) (by kernel_rfl) _ _ w.heap.size 56 #[.int .u64 0, .int .i64 0, .slice none 0 0, .int .i64 0, .bool false] (0, 0) _ (by kernel_rfl) HB.out Try.underlying56 (by kernel_rfl) (by kernel_rfl)) (by kernel_rfl) ?_
  exact ⟨rfl, HM3.out⟩
theorem getYes (h : SndX sb ad S w s) (hl : SLink ad) (id : Int) (hs : (idsV ad.ovs).Pairwise (· < ·)) (hn : ad.ovs.length ≤ 1000000) {k : Nat} {a : OutA} (hk : S.l[k]? = some a) (hid : a.id = id) (hd : a.data.length ≤ 1000000) :
    Calls Try.prog 22 #[.pointer (some ⟨sb, 0, none⟩), .int .u64 id] w fun e w' => (∃ v, e = .returned (.tuple #[.agg #[.int .u64 a.id, .int .i64 a.dst, v, .int .i64 a.st, .bool (a.st == 2)], .bool true]) ∧ Own w' w.heap.size 5 1 encB v a.data) ∧ Mod NoB w w' := by
  obtain ⟨o, ho, e1, e2, e3, hown⟩ := h.ats hk
  have hidv : (idsV ad.ovs)[k]? = some id := by rw [idsV_get ho, e1, hid]
  have hpl := place_at hs hidv
  have m0 := (Mod.refl NoB w).alloc (.cells #[.int .u64 0, .int .i64 0, .slice none 0 0, .int .i64 0, .bool false] 56)
  have HF := Lib.hid (findW (h.later m0) hl id hs hn)
  rw [hpl, decide_eq_true (List.mem_of_getElem? hidv)] at HF
  have hrow : Own w 0 56 5 encO ad.lc ad.ovs := h.row hl
  have hkl := (List.getElem?_eq_some_iff.1 ho).1
  obtain ⟨g, cap, hv, hcap, -, hg⟩ := hrow.form1 (by omega)
  obtain ⟨n, hnn⟩ : ∃ n, ad.ovs.length = n := ⟨_, rfl⟩
  rw [hnn] at hv hn hkl
  obtain ⟨hsb, hb⟩ := h.top
  have c3 : w.cell? ⟨sb, 3, none⟩ = some (.slice (some ⟨g, 0, none⟩) n cap) := by rw [hb.cell, ← hv]; rfl
  rw [hv] at hrow
  have r0 := hrow.cell encO_len ho (j := 0) (by omega)
  have r1 := hrow.cell encO_len ho (j := 1) (by omega)
  have r2 := hrow.cell encO_len ho (j := 2) (by omega)
  have r3 := hrow.cell encO_len ho (j := 3) (by omega)
  have r4 := hrow.cell encO_len ho (j := 4) (by omega)
  have hgl : g < w.heap.size := hg
  obtain ⟨oid, dst, dv, st, one⟩ := o
  dsimp only at e1 e2 e3 hown
  subst e1 e2 e3
  obtain ⟨Ad, cd, rfl, -⟩ := hown.form
  simp only [encO, List.getElem?_cons_zero, List.getElem?_cons_succ, Nat.add_zero] at r0 r1 r2 r3 r4
  have HM0 := Lib.hid m0
  have HOWN := Lib.hid hown
  have hkz : (k : Int) < (n : Int) := by omega
  have hkz0 : (0 : Int) ≤ (k : Int) := by omega
  have HD := Lib.hid hd
  generalize a.data = d at *
  obtain ⟨ld, hld⟩ : ∃ ld, d.length = ld := ⟨_, rfl⟩
  rw [hld] at r2 HOWN
  clear h hs hpl hidv hrow hv hown hnn hb m0 hd hld ho
  go_enter Try.func22, Try.ntmps22
  go_wp2_with fail
  refine HF.out.mono ?_
  rintro e w2 ⟨rfl, m2⟩
  have M2 := HM0.out.trans m2 (fun _ _ e => e)
  have hB := Lib.hid ((Blk.new w 56 #[.int .u64 0, .int .i64 0, .slice none 0 0, .int .i64 0, .bool false]).mod m2 (fun e => e))
  have c3' := (M2.cell (p := ⟨sb, 3, none⟩) hsb.2 (fun e => e)).trans c3
  have r0' := (M2.cell (p := ⟨g, k * 5, none⟩) hgl (fun e => e)).trans r0
  have r1' := (M2.cell (p := ⟨g, k * 5 + 1, none⟩) hgl (fun e => e)).trans r1
  have r2' := (M2.cell (p := ⟨g, k * 5 + 2, none⟩) hgl (fun e => e)).trans r2
  have r3' := (M2.cell (p := ⟨g, k * 5 + 3, none⟩) hgl (fun e => e)).trans r3
  have r4' := (M2.cell (p := ⟨g, k * 5 + 4, none⟩) hgl (fun e => e)).trans r4
  have HM2 := Lib.hid M2
  have hlt : w.heap.size < w2.heap.size := by have := m2.size; simp at this; omega
  have HW := Lib.hid (Nat.le_of_lt hlt)
  clear m2 M2 r0 r1 r2 r3 r4 c3
  obtain ⟨b0, hb0⟩ : ∃ b0, w.heap.size = b0 := ⟨_, rfl⟩
  rw [hb0] at hB hlt ⊢
  go_wp2_with fail
  have m3 := (Mod.refl NoB w2).alloc (.cells #[.int .u64 id, .int .i64 a.dst, .slice Ad ld cd, .int .i64 a.st, .bool false] 56)
  have hB1 := Blk.new w2 56 #[.int .u64 id, .int .i64 a.dst, .slice Ad ld cd, .int .i64 a.st, .bool false]
  have hB0 := hB.out.mod m3 (fun e => e)
  have HCL := Lib.hid (SlB.cloneW _ d _ (((HOWN.out.mod HM2.out (fun _ _ e => e)).mod m3 (fun _ _ e => e)).has) HD.out)
  generalize w2.alloc (.cells #[.int .u64 id, .int .i64 a.dst, .slice Ad ld cd, .int .i64 a.st, .bool false] 56) = w3 at *
  obtain ⟨b1, hb1⟩ : ∃ b1, w2.heap.size = b1 := ⟨_, rfl⟩
  rw [hb1] at hB1 hlt ⊢
  refine HCL.out.mono ?_
  rintro e w4 ⟨v', rfl, ho4, m4⟩
  obtain ⟨A4, c4, rfl, -⟩ := ho4.form
  obtain ⟨l4, hl4⟩ : ∃ l4, d.length = l4 := ⟨_, rfl⟩
  rw [hl4] at ho4 ⊢
  have hC1 := hB1.mod m4 (fun e => e)
  have hC0 := hB0.mod m4 (fun e => e)
  have HM4 := Lib.hid ((HM2.out.trans m3 (fun _ _ e => e)).trans m4 (fun _ _ e => e))
  have HO4 := Lib.hid (ho4.le (show w.heap.size ≤ w3.heap.size from (HM2.out.trans m3 (fun _ _ e => e)).size))
  have d0 : w4.cell? ⟨b1, 0, none⟩ = some (.int .u64 id) := by rw [hC1.cell]; rfl
  have d1 : w4.cell? ⟨b1, 1, none⟩ = some (.int .i64 a.dst) := by rw [hC1.cell]; rfl
  have d2 : w4.cell? ⟨b1, 2, none⟩ = some (.slice Ad ld cd) := by rw [hC1.cell]; rfl
  have d3 : w4.cell? ⟨b1, 3, none⟩ = some (.int .i64 a.st) := by rw [hC1.cell]; rfl
  have d4 : w4.cell? ⟨b1, 4, none⟩ = some (.bool false) := by rw [hC1.cell]; rfl
  have f2 := hC1.free 2
  have f4 := hC1.free 4
  have k0 : w4.cell? ⟨b0, 0, none⟩ = some (.int .u64 0) := by rw [hC0.cell]; rfl
  have k1 : w4.cell? ⟨b0, 1, none⟩ = some (.int .i64 0) := by rw [hC0.cell]; rfl
  have k2 : w4.cell? ⟨b0, 2, none⟩ = some (.slice none 0 0) := by rw [hC0.cell]; rfl
  have k3 : w4.cell? ⟨b0, 3, none⟩ = some (.int .i64 0) := by rw [hC0.cell]; rfl
  have k4 : w4.cell? ⟨b0, 4, none⟩ = some (.bool false) := by rw [hC0.cell]; rfl
  have j0 := hC0.free 0
  have j1 := hC0.free 1
  have j2 := hC0.free 2
  have j3 := hC0.free 3
  have j4 := hC0.free 4
  have hne : b0 ≠ b1 := by omega
  have hne' : b1 ≠ b0 := by omega
  have HC1 := Lib.hid hC1
  have HC0 := Lib.hid hC0
  have hb1l : b1 < w3.heap.size := hB1.lt
  have HM5 := Lib.hid (((((((HM4.out.setCell (p := ⟨b1, 2, none⟩) (fun e => absurd (show b1 < w.heap.size from e) (by omega)) (.slice A4 l4 c4)).setCell (p := ⟨b1, 4, none⟩) (fun e => absurd (show b1 < w.heap.size from e) (by omega)) (.bool (a.st == 2))).setCell (p := ⟨b0, 0, none⟩) (fun e => absurd (show b0 < w.heap.size from e) (by omega)) (.int .u64 id)).setCell (p := ⟨b0, 1, none⟩) (fun e => absurd (show b0 < w.heap.size from e) (by omega)) (.int .i64 a.dst)).setCell (p := ⟨b0, 2, none⟩) (fun e => absurd (show b0 < w.heap.size from e) (by omega)) (.slice A4 l4 c4)).setCell (p := ⟨b0, 3, none⟩) (fun e => absurd (show b0 < w.heap.size from e) (by omega)) (.int .i64 a.st)).setCell (p := ⟨b0, 4, none⟩) (fun e => absurd (show b0 < w.heap.size from e) (by omega)) (.bool (a.st == 2)))
  have HO5 := Lib.hid ((ho4.le (show w.heap.size ≤ w3.heap.size from (HM2.out.trans m3 (fun _ _ e => e)).size)).mod ((((((((Mod.refl (fun k => k = b0 ∨ k = b1) w4).setCell (p := ⟨b1, 2, none⟩) (fun _ => .inr rfl) (.slice A4 l4 c4)).setCell (p := ⟨b1, 4, none⟩) (fun _ => .inr rfl) (.bool (a.st == 2))).setCell (p := ⟨b0, 0, none⟩) (fun _ => .inl rfl) (.int .u64 id)).setCell (p := ⟨b0, 1, none⟩) (fun _ => .inl rfl) (.int .i64 a.dst)).setCell (p := ⟨b0, 2, none⟩) (fun _ => .inl rfl) (.slice A4 l4 c4)).setCell (p := ⟨b0, 3, none⟩) (fun _ => .inl rfl) (.int .i64 a.st)).setCell (p := ⟨b0, 4, none⟩) (fun _ => .inl rfl) (.bool (a.st == 2))) (fun k hk e => by
    have := ho4.base hk
    rcases e with e | e <;> omega))
  have HB5 := Lib.hid (((((((HC0.out.setOther (a := ⟨b1, 2, none⟩) hne (.slice A4 l4 c4)).setOther (a := ⟨b1, 4, none⟩) hne (.bool (a.st == 2))).set 0 (.int .u64 id)).set 1 (.int .i64 a.dst)).set 2 (.slice A4 l4 c4)).set 3 (.int .i64 a.st)).set 4 (.bool (a.st == 2)))
  clear hC1 hC0 hB1 hB0 m3 m4 ho4 HO4
  go_wp2_with fail
  refine bodyPost_ret (results_cell_tmp (p := 4) (u := 5) (by kernel_rfl) _ _ b0 56 #[.int .u64 id, .int .i64 a.dst, .slice A4 l4 c4, .int .i64 a.st, .bool (a.st == 2)] (0, 0) _ (by kernel_rfl) HB5.out Try.underlying56 (by kernel_rfl) (by kernel_rfl)) (by kernel_rfl) ?_
  rw [hid]
  exact ⟨⟨_, rfl, HO5.out⟩, HM5.out⟩
end
end Go.Proofs.Ytddnlbkocmpffaa
