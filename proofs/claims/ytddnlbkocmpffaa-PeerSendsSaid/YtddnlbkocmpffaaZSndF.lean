/- Senders: find, Len, Get. -/
import Derived.Test.YtddnlbkocmpffaaZBinO
namespace Go.Proofs.Ytddnlbkocmpffaa
open Go.RowKit
set_option linter.unusedVariables false
set_option maxHeartbeats 4000000
set_option maxRecDepth 100000
section
variable {sb : Nat} {ad : SAd} {S : SndA} {w : World} {s : Nat → Prop}
theorem findW (h : SndX sb ad S w s) (hl : SLink ad) (id : Int) (hs : (idsV ad.ovs).Pairwise (· < ·)) (hn : ad.ovs.length ≤ 1000000) :
    Calls Try.prog 46 #[.pointer (some ⟨sb, 0, none⟩), .int .u64 id] w fun e w' => e = .returned (.tuple #[.int .i64 (placeU (idsV ad.ovs) id : Nat), .bool (decide (id ∈ idsV ad.ovs))]) ∧ Mod NoB w w' := by
  obtain ⟨-, hb⟩ := h.top
  have c3 : w.cell? ⟨sb, 3, none⟩ = some ad.lc := by rw [hb.cell]; rfl
  have ho : Own w 0 56 5 encO ad.lc ad.ovs := h.row hl
  have HB := Lib.hid (binO ad.lc ad.ovs id w 0 ho hs hn)
  generalize placeU (idsV ad.ovs) id = R at *
  generalize decide (id ∈ idsV ad.ovs) = D at *
  clear ho h hb
  generalize ad.lc = lv at *
  clear hs
  go_enter Try.func46, Try.ntmps46
  go_wp2_with fail
  refine HB.out.mono ?_
  rintro e w2 ⟨rfl, m2⟩
  have HM := Lib.hid m2
  clear m2
  go_wp2_with fail
  go_ret2
  exact ⟨rfl, HM.out⟩
theorem slenW (h : SndX sb ad S w s) (hl : SLink ad) : Calls Try.prog 24 #[.pointer (some ⟨sb, 0, none⟩)] w fun e w' => e = .returned (.int .i64 S.l.length) ∧ w = w' := by
  obtain ⟨-, hb⟩ := h.top
  have c3 : w.cell? ⟨sb, 3, none⟩ = some ad.lc := by rw [hb.cell]; rfl
  obtain ⟨A, cap, hv, -⟩ := (h.row hl).form
  rw [h.lens] at hv
  rw [hv] at c3
  generalize S.l.length = n at *
  clear h hl hb hv
  go_enter Try.func24, Try.ntmps24
  go_wp2_with fail
  go_ret
  exact ⟨rfl, rfl⟩
/-- Where an id stands. -/
theorem place_at {xs : List Int} (hs : xs.Pairwise (· < ·)) {k : Nat} {t : Int} (hk : xs[k]? = some t) : placeU xs t = k := by
  have hkl := (List.getElem?_eq_some_iff.1 hk).1
  refine place_of (Nat.le_of_lt hkl) (fun z hz => ?_) (drop_ge hs hk (Int.le_refl _))
  obtain ⟨j, hj, rfl⟩ := List.mem_iff_getElem.1 hz
  rw [List.length_take] at hj
  rw [List.getElem_take]
  have := List.pairwise_iff_getElem.1 hs j k (by omega) hkl (by omega)
  have := (List.getElem?_eq_some_iff.1 hk).2
  omega
theorem SndX.ats (h : SndX sb ad S w s) {k : Nat} {a : OutA} (hk : S.l[k]? = some a) : ∃ o : OutV, ad.ovs[k]? = some o ∧ o.id = a.id ∧ o.dst = a.dst ∧ o.st = a.st ∧ Own w 0 5 1 encB o.dv a.data := by
  obtain ⟨t, h1, -⟩ := h.part .dat
  have hkl := (List.getElem?_eq_some_iff.1 hk).1
  have ho := List.getElem?_eq_getElem (show k < ad.ovs.length by rw [h1.1]; exact hkl)
  have hd := h1.2 (ad.ovs[k]'(by rw [h1.1]; exact hkl), a) (List.mem_iff_getElem?.2 ⟨k, List.getElem?_zip_eq_some.2 ⟨ho, hk⟩⟩)
  exact ⟨_, ho, hd.1, hd.2.1, hd.2.2.1, hd.2.2.2.1⟩
end
end Go.Proofs.Ytddnlbkocmpffaa
