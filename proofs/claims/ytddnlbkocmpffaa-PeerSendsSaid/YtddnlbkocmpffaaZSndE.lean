/- Senders.End. -/
import Derived.Test.YtddnlbkocmpffaaZSndF
namespace Go.Proofs.Ytddnlbkocmpffaa
open Go.RowKit
set_option linter.unusedVariables false
set_option maxHeartbeats 4000000
set_option maxRecDepth 100000
/-- The ids of what is sent. -/
def idsA (l : List OutA) : List Int := l.map (·.id)
theorem DatsV.set {ovs : List OutV} {l : List OutA} {w : World} {s : Nat → Prop} (h : DatsV ovs l w s) {k : Nat} {o : OutV} {a : OutA} (ho : ovs[k]? = some o) (ha : l[k]? = some a) (st : Int) :
    DatsV (ovs.set k { o with st := st }) (l.set k { a with st := st }) w s := by
  refine ⟨by rw [List.length_set, List.length_set]; exact h.1, fun p hp => ?_⟩
  obtain ⟨j, hj⟩ := List.mem_iff_getElem?.1 hp
  rw [List.getElem?_zip_eq_some] at hj
  obtain ⟨h1, h2⟩ := hj
  have hk1 := (List.getElem?_eq_some_iff.1 ho).1
  have hk2 := (List.getElem?_eq_some_iff.1 ha).1
  by_cases e : k = j
  · subst e
    rw [List.getElem?_set_self hk1] at h1
    rw [List.getElem?_set_self hk2] at h2
    have hd := h.2 (o, a) (List.mem_iff_getElem?.2 ⟨k, List.getElem?_zip_eq_some.2 ⟨ho, ha⟩⟩)
    rw [← Option.some.inj h1, ← Option.some.inj h2]
    exact ⟨hd.1, hd.2.1, rfl, hd.2.2.2⟩
  · rw [List.getElem?_set_ne e] at h1 h2
    exact h.2 p (List.mem_iff_getElem?.2 ⟨j, List.getElem?_zip_eq_some.2 ⟨h1, h2⟩⟩)
theorem DatsV.cut {ovs : List OutV} {l : List OutA} {w : World} {s : Nat → Prop} (h : DatsV ovs l w s) (k : Nat) : DatsV (ovs.take k ++ ovs.drop (k + 1)) (l.take k ++ l.drop (k + 1)) w s := by
  refine ⟨by rw [List.length_append, List.length_append, List.length_take, List.length_take, List.length_drop, List.length_drop, h.1], fun p hp => ?_⟩
  rw [List.zip_append (by rw [List.length_take, List.length_take, h.1]), List.mem_append] at hp
  rcases hp with hp | hp
  all_goals
    obtain ⟨j, hj⟩ := List.mem_iff_getElem?.1 hp
    rw [List.getElem?_zip_eq_some] at hj
    obtain ⟨h1, h2⟩ := hj
  · rw [List.getElem?_take] at h1 h2
    split at h1
    · rename_i hj
      rw [if_pos hj] at h2
      exact h.2 p (List.mem_iff_getElem?.2 ⟨j, List.getElem?_zip_eq_some.2 ⟨h1, h2⟩⟩)
    · cases h1
  · rw [List.getElem?_drop] at h1 h2
    exact h.2 p (List.mem_iff_getElem?.2 ⟨_, List.getElem?_zip_eq_some.2 ⟨h1, h2⟩⟩)
section
variable {sb : Nat} {ad : SAd} {S : SndA} {w : World} {s : Nat → Prop}
theorem SndX.ids (h : SndX sb ad S w s) : idsV ad.ovs = idsA S.l := by
  apply List.ext_getElem?
  intro k
  unfold idsV idsA
  rw [List.getElem?_map, List.getElem?_map]
  rcases hk : S.l[k]? with _ | a
  · have hl := h.lens
    rw [List.getElem?_eq_none_iff] at hk
    rw [List.getElem?_eq_none (by omega)]
    rfl
  · obtain ⟨o, ho, e, -⟩ := h.ats hk
    rw [ho]
    simp [e]
/-- A message's state, set. -/
theorem SndX.stP (h : SndX sb ad S w s) (hl : SLink ad) {g n cap k : Nat} (hv : ad.lc = .slice (some ⟨g, 0, none⟩) n cap) {a : OutA} (hk : S.l[k]? = some a) (st : Int) :
    SndO sb { S with l := S.l.set k { a with st := st } } (w.setCell ⟨g, k * 5 + 3, none⟩ (.int .i64 st)) (Ext s w (w.setCell ⟨g, k * 5 + 3, none⟩ (.int .i64 st))) ∧ Mod s w (w.setCell ⟨g, k * 5 + 3, none⟩ (.int .i64 st)) := by
  obtain ⟨o, ho, -⟩ := h.ats hk
  obtain ⟨t, h1, h2, h3, h4⟩ := h.rowP
  have hlv : ad.lv = .slice (some ⟨g, 0, none⟩) n cap := hl.lc.symm.trans hv
  rw [hlv, hl.ovr] at h2
  have hg : t g := h1 g (by rw [hlv]; rfl)
  have hm : Mod t w (w.setCell ⟨g, k * 5 + 3, none⟩ (.int .i64 st)) := (Mod.refl t w).setCell (p := ⟨g, k * 5 + 3, none⟩) (fun _ => hg) _
  have ho2 := h2.set encO_len ho (j := 3) (by omega) (.int .i64 st) { o with st := st } rfl
  have hx := h4 (.slice (some ⟨g, 0, none⟩) n cap) _ _ hm (fun z hz => .inl (by
    have e : g = z := Option.some.inj hz
    rw [← e]; exact hg)) ho2
  have hx2 := hx.datTurn (ovs := ad.ovs.set k { o with st := st }) (l := S.l.set k { a with st := st }) (fun t' hd => hd.set ho hk st)
  exact ⟨⟨_, hx2, ⟨hv, rfl⟩⟩, hm.mono fun i _ e => (h3 i e).1⟩
theorem endNo (h : SndX sb ad S w s) (hl : SLink ad) (id st : Int) (hs : (idsA S.l).Pairwise (· < ·)) (hn : S.l.length ≤ 1000000) (hno : id ∉ idsA S.l) :
    Calls Try.prog 18 #[.pointer (some ⟨sb, 0, none⟩), .int .u64 id, .int .i64 st] w fun e w' => e = .returned (.int .i64 5) ∧ Mod NoB w w' := by
  rw [← h.ids] at hs hno
  have HF := Lib.hid (findW h hl id hs (by rw [h.lens]; exact hn))
  rw [decide_eq_false hno] at HF
  generalize placeU (idsV ad.ovs) id = R at *
  clear h hs hno
  go_enter Try.func18, Try.ntmps18
  go_wp2_with fail
  refine HF.out.mono ?_
  rintro e w2 ⟨rfl, m2⟩
  have HM := Lib.hid m2
  clear m2
  go_wp2_with fail
  go_ret
  exact ⟨rfl, HM.out⟩
theorem endArg (h : SndX sb ad S w s) (hl : SLink ad) (id st : Int) (hs : (idsA S.l).Pairwise (· < ·)) (hn : S.l.length ≤ 1000000) {k : Nat} {a : OutA} (hk : S.l[k]? = some a) (hid : a.id = id) (hst : st < 2 ∨ 4 < st) :
    Calls Try.prog 18 #[.pointer (some ⟨sb, 0, none⟩), .int .u64 id, .int .i64 st] w fun e w' => e = .returned (.int .i64 1) ∧ Mod NoB w w' := by
  have hidv : (idsA S.l)[k]? = some id := by unfold idsA; rw [List.getElem?_map, hk]; simp [hid]
  rw [← h.ids] at hs hidv
  have HF := Lib.hid (findW h hl id hs (by rw [h.lens]; exact hn))
  rw [place_at hs hidv, decide_eq_true (List.mem_of_getElem? hidv)] at HF
  clear h hs hidv hk
  have hsp : st < 2 ∨ (¬ st < 2 ∧ 4 < st) := by omega
  clear hst
  rcases hsp with h1 | ⟨h1, h2⟩
  all_goals
    go_enter Try.func18, Try.ntmps18
    go_wp2_with fail
    refine HF.out.mono ?_
    rintro e w2 ⟨rfl, m2⟩
    have HM := Lib.hid m2
    clear m2
    go_wp2_with fail
    go_ret
    exact ⟨rfl, HM.out⟩
theorem endLate (h : SndX sb ad S w s) (hl : SLink ad) (id st : Int) (hs : (idsA S.l).Pairwise (· < ·)) (hn : S.l.length ≤ 1000000) {k : Nat} {a : OutA} (hk : S.l[k]? = some a) (hid : a.id = id) (hst : ¬ st < 2 ∧ ¬ 4 < st) (hno : ¬ a.st = 1) :
    Calls Try.prog 18 #[.pointer (some ⟨sb, 0, none⟩), .int .u64 id, .int .i64 st] w fun e w' => e = .returned (.int .i64 8) ∧ Mod NoB w w' := by
  obtain ⟨h1, h2⟩ := hst
  have hidv : (idsA S.l)[k]? = some id := by unfold idsA; rw [List.getElem?_map, hk]; simp [hid]
  rw [← h.ids] at hs hidv
  have HF := Lib.hid (findW h hl id hs (by rw [h.lens]; exact hn))
  rw [place_at hs hidv, decide_eq_true (List.mem_of_getElem? hidv)] at HF
  obtain ⟨o, ho, e1, e2, e3, -⟩ := h.ats hk
  have hrow : Own w 0 56 5 encO ad.lc ad.ovs := h.row hl
  have hkl := (List.getElem?_eq_some_iff.1 ho).1
  obtain ⟨g, cap, hv, hcap, -, hg⟩ := hrow.form1 (by omega)
  obtain ⟨n, hnn⟩ : ∃ n, ad.ovs.length = n := ⟨_, rfl⟩
  rw [hnn] at hv hkl
  obtain ⟨hsb, hb⟩ := h.top
  have c3 : w.cell? ⟨sb, 3, none⟩ = some (.slice (some ⟨g, 0, none⟩) n cap) := by rw [hb.cell, ← hv]; rfl
  rw [hv] at hrow
  have r3 := hrow.cell encO_len ho (j := 3) (by omega)
  simp only [encO, List.getElem?_cons_zero, List.getElem?_cons_succ] at r3
  rw [e3] at r3
  obtain ⟨sta, hsta⟩ : ∃ sta, a.st = sta := ⟨_, rfl⟩
  rw [hsta] at r3 hno
  have hd1 : (sta == 1) = false := by simp [hno]
  have hkz : (k : Int) < (n : Int) := by omega
  have hkz0 : (0 : Int) ≤ (k : Int) := by omega
  clear h hs hidv hk hrow hv hnn hb ho e1 e2 e3 hsta
  go_enter Try.func18, Try.ntmps18
  go_wp2_with fail
  refine HF.out.mono ?_
  rintro e w2 ⟨rfl, m2⟩
  have c3' := (m2.cell (p := ⟨sb, 3, none⟩) hsb.2 (fun e => e)).trans c3
  have r3' := (m2.cell (p := ⟨g, k * 5 + 3, none⟩) hg (fun e => e)).trans r3
  have HM := Lib.hid m2
  clear m2
  go_wp2_with fail
  go_ret
  exact ⟨rfl, HM.out⟩
theorem endYes (h : SndX sb ad S w s) (hl : SLink ad) (id st : Int) (hs : (idsA S.l).Pairwise (· < ·)) (hn : S.l.length ≤ 1000000) {k : Nat} {a : OutA} (hk : S.l[k]? = some a) (hid : a.id = id) (hst : ¬ st < 2 ∧ ¬ 4 < st) (hno : a.st = 1) :
    Calls Try.prog 18 #[.pointer (some ⟨sb, 0, none⟩), .int .u64 id, .int .i64 st] w fun e w' => e = .returned (.int .i64 0) ∧ SndO sb { S with l := S.l.set k { a with st := st } } w' (Ext s w w') ∧ Mod s w w' := by
  obtain ⟨h1, h2⟩ := hst
  have hidv : (idsA S.l)[k]? = some id := by unfold idsA; rw [List.getElem?_map, hk]; simp [hid]
  rw [← h.ids] at hs hidv
  have HF := Lib.hid (findW h hl id hs (by rw [h.lens]; exact hn))
  rw [place_at hs hidv, decide_eq_true (List.mem_of_getElem? hidv)] at HF
  obtain ⟨o, ho, e1, e2, e3, -⟩ := h.ats hk
  have hrow : Own w 0 56 5 encO ad.lc ad.ovs := h.row hl
  have hkl := (List.getElem?_eq_some_iff.1 ho).1
  obtain ⟨g, cap, hv, hcap, -, hg⟩ := hrow.form1 (by omega)
  obtain ⟨n, hnn⟩ : ∃ n, ad.ovs.length = n := ⟨_, rfl⟩
  rw [hnn] at hv hkl
  obtain ⟨hsb, hb⟩ := h.top
  have c3 : w.cell? ⟨sb, 3, none⟩ = some (.slice (some ⟨g, 0, none⟩) n cap) := by rw [hb.cell, ← hv]; rfl
  have hrow2 := hrow
  rw [hv] at hrow
  have r3 := hrow.cell encO_len ho (j := 3) (by omega)
  have fr := hrow.free (k * 5 + 3)
  simp only [encO, List.getElem?_cons_zero, List.getElem?_cons_succ] at r3
  rw [e3, hno] at r3
  have hkz : (k : Int) < (n : Int) := by omega
  have hkz0 : (0 : Int) ≤ (k : Int) := by omega
  have HST := Lib.hid (fun (W : World) (m : Mod NoB w W) => (h.later m).stP hl hv hk st)
  clear h hs hidv hk hrow hrow2 hv hnn hb ho e1 e2 e3 hno
  go_enter Try.func18, Try.ntmps18
  go_wp2_with fail
  refine HF.out.mono ?_
  rintro e w2 ⟨rfl, m2⟩
  have c3' := (m2.cell (p := ⟨sb, 3, none⟩) hsb.2 (fun e => e)).trans c3
  have r3' := (m2.cell (p := ⟨g, k * 5 + 3, none⟩) hg (fun e => e)).trans r3
  have fr' := (m2.frozen (p := ⟨g, k * 5 + 3, none⟩) hg (fun e => e)).trans fr
  have HM := Lib.hid m2
  have HQ := Lib.hid (HST.out w2 m2)
  clear m2
  go_wp2_with fail
  go_ret
  obtain ⟨⟨ad', q1, q2⟩, q3⟩ := HQ.out
  refine ⟨rfl, ⟨ad', q1.ext0 HM.out.size, q2⟩, (HM.out.mono (fun _ _ e => e.elim)).trans q3 (fun _ _ e => e)⟩
end
end Go.Proofs.Ytddnlbkocmpffaa
