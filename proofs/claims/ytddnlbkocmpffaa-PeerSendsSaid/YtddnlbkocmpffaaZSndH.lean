/- Senders.Forget. -/
import Derived.Test.YtddnlbkocmpffaaZSndE
import Derived.Test.YtddnlbkocmpffaaZDelO
namespace Go.Proofs.Ytddnlbkocmpffaa
open Go.RowKit
set_option linter.unusedVariables false
set_option maxHeartbeats 4000000
set_option maxRecDepth 100000
section
variable {sb : Nat} {ad : SAd} {S : SndA} {w : World} {s : Nat → Prop}
theorem sforgetNo (h : SndX sb ad S w s) (hl : SLink ad) (id : Int) (hs : (idsA S.l).Pairwise (· < ·)) (hn : S.l.length ≤ 1000000) (hno : id ∉ idsA S.l) :
    Calls Try.prog 20 #[.pointer (some ⟨sb, 0, none⟩), .int .u64 id] w fun e w' => e = .returned (.int .i64 5) ∧ Mod NoB w w' := by
  rw [← h.ids] at hs hno
  have HF := Lib.hid (findW h hl id hs (by rw [h.lens]; exact hn))
  rw [decide_eq_false hno] at HF
  generalize placeU (idsV ad.ovs) id = R at *
  clear h hs hno
  go_enter Try.func20, Try.ntmps20
  go_wp2_with fail
  refine HF.out.mono ?_
  rintro e w2 ⟨rfl, m2⟩
  have HM := Lib.hid m2
  clear m2
  go_wp2_with fail
  go_ret
  exact ⟨rfl, HM.out⟩
theorem sforgetArg (h : SndX sb ad S w s) (hl : SLink ad) (id : Int) (hs : (idsA S.l).Pairwise (· < ·)) (hn : S.l.length ≤ 1000000) {k : Nat} {a : OutA} (hk : S.l[k]? = some a) (hid : a.id = id) (hno : a.st = 1) :
    Calls Try.prog 20 #[.pointer (some ⟨sb, 0, none⟩), .int .u64 id] w fun e w' => e = .returned (.int .i64 1) ∧ Mod NoB w w' := by
  have hidv : (idsA S.l)[k]? = some id := by unfold idsA; rw [List.getElem?_map, hk]; simp [hid]
  rw [← h.ids] at hs hidv
  have HF := Lib.hid (findW h hl id hs (by rw [h.lens]; exact hn))
  rw [place_at hs hidv, decide_eq_true (List.mem_of_getElem? hidv)] at HF
  obtain ⟨o, ho, e1, e2, e3, -⟩ := h.ats hk
  have hrow : Own w 0 56 5 encO ad.lc ad.ovs := h.row hl
  have hkl := (List.getElem?_eq_some_iff.1 ho).1
  obtain ⟨g, cap, hv, hcap, -, hg⟩ := hrow.form1 (by omega)
  obtain ⟨n, hnn⟩ : ∃ n, ad.ovs.length = n := ⟨_, rfl⟩
  rw [hnn] at hv hkl
  obtain ⟨hsb, hb⟩ := h.top
  have c3 : w.cell? ⟨sb, 3, none⟩ = some (.slice (some ⟨g, 0, none⟩) n cap) := by rw [hb.cell, ← hv]; rfl
  rw [hv] at hrow
  have r3 := hrow.cell encO_len ho (j := 3) (by omega)
  simp only [encO, List.getElem?_cons_zero, List.getElem?_cons_succ] at r3
  rw [e3, hno] at r3
  have hkz : (k : Int) < (n : Int) := by omega
  have hkz0 : (0 : Int) ≤ (k : Int) := by omega
  clear h hs hidv hk hrow hv hnn hb ho e1 e2 e3 hno
  go_enter Try.func20, Try.ntmps20
  go_wp2_with fail
  refine HF.out.mono ?_
  rintro e w2 ⟨rfl, m2⟩
  have c3' := (m2.cell (p := ⟨sb, 3, none⟩) hsb.2 (fun e => e)).trans c3
  have r3' := (m2.cell (p := ⟨g, k * 5 + 3, none⟩) hg (fun e => e)).trans r3
  have HM := Lib.hid m2
  clear m2
  go_wp2_with fail
  go_ret
  exact ⟨rfl, HM.out⟩
theorem sforgetYes (h : SndX sb ad S w s) (hl : SLink ad) (id : Int) (hs : (idsA S.l).Pairwise (· < ·)) (hn : S.l.length ≤ 1000000) {k : Nat} {a : OutA} (hk : S.l[k]? = some a) (hid : a.id = id) (hno : ¬ a.st = 1) :
    Calls Try.prog 20 #[.pointer (some ⟨sb, 0, none⟩), .int .u64 id] w fun e w' => e = .returned (.int .i64 0) ∧ SndO sb { S with l := S.l.take k ++ S.l.drop (k + 1) } w' (Ext s w w') ∧ Mod s w w' := by
  have hidv : (idsA S.l)[k]? = some id := by unfold idsA; rw [List.getElem?_map, hk]; simp [hid]
  rw [← h.ids] at hs hidv
  have HF := Lib.hid (findW h hl id hs (by rw [h.lens]; exact hn))
  rw [place_at hs hidv, decide_eq_true (List.mem_of_getElem? hidv)] at HF
  obtain ⟨o, ho, e1, e2, e3, -⟩ := h.ats hk
  have hlen := h.lens
  have hrow : Own w 0 56 5 encO ad.lc ad.ovs := h.row hl
  have hkl := (List.getElem?_eq_some_iff.1 ho).1
  obtain ⟨g, cap, hv, hcap, -, hg⟩ := hrow.form1 (by omega)
  obtain ⟨n, hnn⟩ : ∃ n, ad.ovs.length = n := ⟨_, rfl⟩
  rw [hnn] at hv hkl
  obtain ⟨hsb, hb⟩ := h.top
  have c3 : w.cell? ⟨sb, 3, none⟩ = some (.slice (some ⟨g, 0, none⟩) n cap) := by rw [hb.cell, ← hv]; rfl
  rw [hv] at hrow
  have r3 := hrow.cell encO_len ho (j := 3) (by omega)
  simp only [encO, List.getElem?_cons_zero, List.getElem?_cons_succ] at r3
  rw [e3] at r3
  obtain ⟨sta, hsta⟩ : ∃ sta, a.st = sta := ⟨_, rfl⟩
  rw [hsta] at r3 hno
  have hd1 : (sta == 1) = false := by simp [hno]
  have hkz : (k : Int) < (n : Int) := by omega
  have hkz0 : (0 : Int) ≤ (k : Int) := by omega
  have HX := Lib.hid h
  have HL := Lib.hid hl
  have HV := Lib.hid hv
  have hnb : n ≤ 1000000 := by omega
  clear h hs hidv hk hrow hv hnn hb ho e1 e2 e3 hsta hlen hl
  go_enter Try.func20, Try.ntmps20
  go_wp2_with fail
  refine HF.out.mono ?_
  rintro e w2 ⟨rfl, m2⟩
  have hx2 := HX.out.later m2
  obtain ⟨t, t1, t2, t3, t4⟩ := hx2.rowP
  have hlv : ad.lv = .slice (some ⟨g, 0, none⟩) n cap := HL.out.lc.symm.trans HV.out
  rw [hlv, HL.out.ovr] at t2
  have htg : t g := t1 g (by rw [hlv]; rfl)
  have HDEL := Lib.hid (SlO.deleteW g cap n k (k + 1) ad.ovs w2 0 t2 (by omega) (by omega) hnb)
  have c3' := (m2.cell (p := ⟨sb, 3, none⟩) hsb.2 (fun e => e)).trans c3
  have r3' := (m2.cell (p := ⟨g, k * 5 + 3, none⟩) hg (fun e => e)).trans r3
  have HM := Lib.hid m2
  have HT := Lib.hid (And.intro htg (And.intro t3 t4))
  have hk1 : n - (k + 1 - k) = n - 1 := by omega
  rw [hk1] at HDEL
  clear m2 hx2 t1 t2 t3 t4 hlv htg
  go_wp2_with fail
  refine HDEL.out.mono ?_
  rintro e w3 ⟨rfl, ho3, m3⟩
  have hx3 := HT.out.2.2 _ _ w3 (m3.mono (fun i _ e => by rw [e]; exact HT.out.1)) (fun z hz => .inl (by
    have e : g = z := Option.some.inj hz
    rw [← e]; exact HT.out.1)) ho3
  have HX3 := Lib.hid ((hx3.lcP (.slice (some ⟨g, 0, none⟩) (n - 1) cap)).datTurn (ovs := ad.ovs.take k ++ ad.ovs.drop (k + 1)) (l := S.l.take k ++ S.l.drop (k + 1)) (fun t' hd => hd.cut k))
  have HM3 := Lib.hid ((HM.out.mono (S' := s) (fun _ _ e => e.elim)).trans m3 (fun i _ e => by rw [e]; exact (HT.out.2.1 _ HT.out.1).1))
  have f3 : w3.frozen? ⟨sb, 3, none⟩ = false := hx3.top.2.free 3
  have c3'' : w3.cell? ⟨sb, 3, none⟩ = some ad.lc := hx3.top.2.cell 3
  have HZ := Lib.hid (And.intro HM.out.size m3.size)
  clear hx3 ho3 m3
  go_wp2_with fail
  go_ret
  refine ⟨rfl, ⟨_, HX3.out.up (fun k hk => ?_), ⟨rfl, rfl⟩⟩, HM3.out.setCell (p := ⟨sb, 3, none⟩) (fun _ => HX.out.top.1.1) _⟩
  have z6 : (w3.setCell ⟨sb, 3, none⟩ (.slice (some ⟨g, 0, none⟩) (n - 1) cap)).heap.size = w3.heap.size := by simp [World.setCell]
  obtain ⟨z1, z2⟩ := HZ.out
  unfold Ext at hk ⊢
  rw [z6] at hk ⊢
  rcases hk with (hk | ⟨a, b⟩) | ⟨a, b⟩
  · exact .inl hk
  · exact .inr ⟨by omega, by omega⟩
  · exact .inr ⟨by omega, by omega⟩
end
end Go.Proofs.Ytddnlbkocmpffaa
