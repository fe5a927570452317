/- peer.Receivers: has, Ended, Len, Waiting, Forget. -/
import Derived.Test.YtddnlbkocmpffaaZRecP
import Derived.StillTailTactics
import Derived.BigRegion
namespace Go.Proofs.Ytddnlbkocmpffaa
open Go.RowKit
set_option linter.unusedVariables false
set_option maxHeartbeats 4000000
set_option maxRecDepth 100000
theorem hasNil (src : Int) (w : World) : Calls Try.prog 52 #[.pointer none, .int .i64 src] w fun e w' => e = .returned (.bool false) ∧ w = w' := by
  go_enter Try.func52, Try.ntmps52
  go_wp2
  go_ret
  exact ⟨rfl, rfl⟩
section
variable {rb : Nat} {ad : RAd} {R : RecA} {w : World} {s : Nat → Prop}
theorem hasYes (h : RecX rb ad R w s) (i : Nat) (hi : i < 8) : Calls Try.prog 52 #[.pointer (some ⟨rb, 0, none⟩), .int .i64 i] w fun e w' => e = .returned (.bool true) ∧ w = w' := by
  have c1 : w.cell? ⟨rb, 1, none⟩ = some (.pointer (some ⟨ad.bt, 0, none⟩)) := h.top.2.cell 1
  have h1 : (0 : Int) ≤ (i : Int) := by omega
  have h2 : (i : Int) < 8 := by omega
  clear h
  go_enter Try.func52, Try.ntmps52
  go_wp2
  go_ret
  exact ⟨rfl, rfl⟩
theorem endedW (h : RecX rb ad R w s) (i : Nat) (hi : i < 8) (id : Int) : Calls Try.prog 35 #[.pointer (some ⟨rb, 0, none⟩), .int .i64 i, .int .u64 id] w fun e w' => e = .returned (.bool (winIs (R.win i).1 (R.win i).2 id)) ∧ Mod NoB w w' := by
  have HH := Lib.hid (hasYes h i hi)
  obtain ⟨t, ⟨v, hw, hw1, hw2⟩, ht, -⟩ := h.winP hi
  have HW := Lib.hid (isW (ad.wb i) R.most (R.win i).1 id v (R.win i).2 w 0 hw)
  have c2 : w.cell? ⟨rb, 2 + i, none⟩ = some (.pointer (some ⟨ad.wb i, 0, none⟩)) := (h.top.2.cell (2 + i)).trans (recCells_win hi)
  have h1 : (0 : Int) ≤ (i : Int) := by omega
  have h2 : (i : Int) < 8 := by omega
  generalize winIs (R.win i).1 (R.win i).2 id = b at *
  generalize ad.wb i = bw at *
  clear h hw ht
  go_enter Try.func35, Try.ntmps35
  go_wp2_with fail
  refine HH.out.mono ?_
  rintro e w2 ⟨rfl, rfl⟩
  go_wp2_with fail
  refine HW.out.mono ?_
  rintro e w2 ⟨rfl, m2⟩
  have HM := Lib.hid m2
  clear m2
  go_wp2_with fail
  go_ret
  exact ⟨rfl, HM.out⟩
theorem recLenW (h : RecX rb ad R w s) : Calls Try.prog 10 #[.pointer (some ⟨rb, 0, none⟩)] w fun e w' => e = .returned (.int .i64 R.n) ∧ w = w' := by
  have c1 : w.cell? ⟨rb, 1, none⟩ = some (.pointer (some ⟨ad.bt, 0, none⟩)) := h.top.2.cell 1
  obtain ⟨t, ht1, ht2, -⟩ := h.tabP
  have HT := Lib.hid (TabBuf.lenT ad.bt ad.bs R.most R.n ad.m w ht2)
  generalize R.n = n at *
  clear h ht1 ht2
  go_enter Try.func10, Try.ntmps10
  go_wp2_with fail
  refine HT.out.mono ?_
  rintro e w2 ⟨rfl, rfl⟩
  go_wp2_with fail
  go_ret
  exact ⟨rfl, rfl⟩
theorem RecX.outs (h : RecX rb ad R w s) : ad.ms.length = R.out.length := by
  obtain ⟨t, h1, -⟩ := h.part .dat
  exact h1.1
theorem RecX.outRow (h : RecX rb ad R w s) (hl : RLink ad R) : Own w 0 33 3 encM ad.outc ad.ms := by
  obtain ⟨t, h1, -⟩ := h.part .out
  rw [hl.outc, ← hl.msr]
  exact h1.2
theorem waitingW (h : RecX rb ad R w s) (hl : RLink ad R) : Calls Try.prog 12 #[.pointer (some ⟨rb, 0, none⟩)] w fun e w' => e = .returned (.int .i64 (R.out.length : Nat)) ∧ w = w' := by
  rw [← h.outs]
  obtain ⟨A, cap, he, -, -⟩ := (h.outRow hl).form
  have c1 : w.cell? ⟨rb, 19, none⟩ = some ad.outc := h.top.2.cell 19
  rw [he] at c1
  clear h hl he
  generalize ad.ms.length = n at *
  go_enter Try.func12, Try.ntmps12
  go_wp2
  go_ret
  exact ⟨rfl, rfl⟩
theorem forgetNo (h : RecX rb ad R w s) (hl : ∀ k, ad.m k = (R.tab k).map fun _ => ad.bb k) (i : Nat) (hi : i < 8) (id : Int) (hk : R.tab (i, id) = none) : Calls Try.prog 39 #[.pointer (some ⟨rb, 0, none⟩), .int .i64 i, .int .u64 id] w fun e w' => e = .returned (.bool false) ∧ Mod NoB w w' := by
  have HH := Lib.hid (hasYes h i hi)
  obtain ⟨t, ht1, ht2, -⟩ := h.tabP
  have HT := Lib.hid (TabBuf.deleteNoT ad.bt ad.bs R.most R.n ad.m i id w ht2 (by rw [hl, hk]; rfl))
  have c1 : w.cell? ⟨rb, 1, none⟩ = some (.pointer (some ⟨ad.bt, 0, none⟩)) := h.top.2.cell 1
  clear h hl hk ht1 ht2
  go_enter Try.func39, Try.ntmps39
  go_wp2_with fail
  refine HH.out.mono ?_
  rintro e w2 ⟨rfl, rfl⟩
  go_wp2_with fail
  refine HT.out.mono ?_
  rintro e w2 ⟨rfl, m2⟩
  have HM := Lib.hid m2
  clear m2
  go_wp2_with fail
  go_ret
  exact ⟨rfl, HM.out⟩
/-- .. behind a message that is forgotten. -/
def RecA.forget (R : RecA) (i : Nat) (id : Int) : RecA := { R with tab := setBuf R.tab ((i : Int), id) none, n := R.n - 1, known := setAt R.known i (R.known i - 1) }
theorem forgetW (h : RecX rb ad R w s) (hl : ∀ k, ad.m k = (R.tab k).map fun _ => ad.bb k) (i : Nat) (hi : i < 8) (id : Int) {b : BufA} (hk : R.tab (i, id) = some b) (hkn : -1000000000 ≤ R.known i ∧ R.known i ≤ 1000000000) :
    Calls Try.prog 39 #[.pointer (some ⟨rb, 0, none⟩), .int .i64 i, .int .u64 id] w fun e w' => e = .returned (.bool true) ∧ RecX rb { ad with m := fun k => if k = ((i : Int), id) then none else ad.m k } (R.forget i id) w' (Ext s w w') ∧ Mod s w w' := by
  have HH := Lib.hid (hasYes h i hi)
  obtain ⟨t, ht1, ht2, ht3, ht4⟩ := h.tabP
  have HT := Lib.hid (TabBuf.deleteT ad.bt ad.bs R.most R.n ad.m i id w ht2 (by rw [hl, hk]; rfl))
  have c1 : w.cell? ⟨rb, 1, none⟩ = some (.pointer (some ⟨ad.bt, 0, none⟩)) := h.top.2.cell 1
  have h1 : (0 : Int) ≤ (i : Int) := by omega
  have h2 : (i : Int) < 8 := by omega
  have HX := Lib.hid h
  have HP := Lib.hid ht4
  have HT1 := Lib.hid ht1
  have HT3 := Lib.hid ht3
  have hkw : IntKind.i64.wrap (R.known i - 1) = R.known i - 1 := by rw [IntKind.wrap_i64]; omega
  clear h hl hk ht1 ht2 ht3 ht4
  go_enter Try.func39, Try.ntmps39
  go_wp2_with fail
  refine HH.out.mono ?_
  rintro e w2 ⟨rfl, rfl⟩
  go_wp2_with fail
  refine HT.out.mono ?_
  rintro e w2 ⟨rfl, hT2, m2⟩
  have m2' := m2.mono (S' := t) (fun k hk e => e.elim (fun e => by rw [e]; exact HT1.out.1) (fun e => by rw [e]; exact HT1.out.2))
  have hx2 := HP.out ad.bs (R.n - 1) _ w2 (.inl rfl) m2' hT2
  have HM2 := Lib.hid m2'
  have HX2 := Lib.hid hx2
  have c3 : w2.cell? ⟨rb, 10 + i, none⟩ = some (.int .i64 (R.known i)) := (hx2.top.2.cell (10 + i)).trans (recCells_known hi)
  have f3 : w2.frozen? ⟨rb, 10 + i, none⟩ = false := hx2.top.2.free (10 + i)
  have HF := Lib.hid (hx2.knownP hi (R.known i - 1))
  have HTS := Lib.hid (fun k (hk : t k) => (HT3.out k hk).1)
  clear hT2 m2 m2' hx2 c1
  go_wp2_with fail
  go_region
  go_wp2_with fail
  go_ret
  have hs2 := HM2.out.size
  have hs3 : (w2.setCell ⟨rb, 10 + i, none⟩ (.int .i64 (R.known i - 1))).heap.size = w2.heap.size := by simp [World.setCell]
  have hf := ((HF.out.later (Mod.refl NoB _).drew).bufGone ((i : Int), id)).up (t := Ext s w (w2.setCell ⟨rb, 10 + i, none⟩ (.int .i64 (R.known i - 1))).drew) (fun k hk => Ext.trans hs2 (Nat.le_of_eq hs3.symm) hk)
  refine ⟨rfl, hf, ?_⟩
  exact ((HM2.out.mono (S' := s) (fun k _ hk => HTS.out k hk)).setCell (p := ⟨rb, 10 + i, none⟩) (fun _ => HX.out.top.1.1) _).drew
end
end Go.Proofs.Ytddnlbkocmpffaa
