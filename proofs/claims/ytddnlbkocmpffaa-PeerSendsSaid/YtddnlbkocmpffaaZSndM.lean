/- The walk of PeerSends. -/
import Derived.Test.YtddnlbkocmpffaaZSndL
import Derived.Test.YtddnlbkocmpffaaZSndQ
import Derived.Deep.CutBlock
import Derived.Deep.RegionHeld3
namespace Go.Proofs.Ytddnlbkocmpffaa
open Go.RowKit
set_option linter.unusedVariables false
set_option maxHeartbeats 8000000
set_option maxRecDepth 100000
theorem LawS.new {sb : Nat} {S : SndA} {w0 wr w1 w2 : World} (h0 : Mod NoB w0 wr) (hs : SndO sb S w1 (Ext NoB wr w1)) (m1 : Mod NoB wr w1) (hr : RSnd w0.heap.size w1.heap.size (.slice none 0 0) [] S w2) (m2 : Mod NoB w1 w2) : LawS NoB sb w1.heap.size S S w0 w2 := by
  obtain ⟨ad, q1, q2⟩ := hs
  have z0 := h0.size
  have z1 := m1.size
  have z2 := m2.size
  refine ⟨⟨Ext NoB wr w1, _, _, ⟨ad, q1.later m2, q2⟩, hr, fun k hk => ?_, fun e => e, fun k e => by cases e⟩, (h0.trans m1 (fun _ _ e => e)).trans m2 (fun _ _ e => e), fun k e => e.elim⟩
  rcases hk with hk | ⟨a, b⟩
  · exact hk.elim
  · exact ⟨⟨by omega, by omega⟩, by omega, fun e => (by cases e), fun e => e⟩
theorem Has.atSd {w : World} {B : Nat} {A : Option Addr} {n cap : Nat} {ss : List SendV} (h : Has w B 5 encSd (.slice A n cap) ss) {i : Nat} {s : SendV} (hi : ss[i]? = some s) :
    ∃ g off, A = some ⟨g, off, none⟩ ∧ g < B ∧ w.cell? ⟨g, off + i * 5, none⟩ = some (.int .i64 s.kind) ∧ w.cell? ⟨g, off + i * 5 + 1, none⟩ = some (.int .i64 s.dst) ∧ w.cell? ⟨g, off + i * 5 + 2, none⟩ = some (.int .u64 s.id) ∧ w.cell? ⟨g, off + i * 5 + 3, none⟩ = some (.int .i64 s.n) ∧ w.cell? ⟨g, off + i * 5 + 4, none⟩ = some s.dv := by
  obtain ⟨g, off, h1, h2, h3⟩ := h.at_ encSd_len hi
  have e : ∀ j, off + (i * 5 + j) = off + i * 5 + j := fun j => (Nat.add_assoc _ _ _).symm
  exact ⟨g, off, h1, h2, (e 0) ▸ h3 0 (by omega), (e 1) ▸ h3 1 (by omega), (e 2) ▸ h3 2 (by omega), (e 3) ▸ h3 3 (by omega), (e 4) ▸ h3 4 (by omega)⟩
theorem walk_peerSends (w : World) (most : Int) (hmost : (Lit.int .i64 most).wf = true) (maxMsg : Int) (hmaxMsg : (Lit.int .i64 maxMsg).wf = true) (last : Int) (hlast : (Lit.int .u64 last).wf = true) {lv : Value} (ss : List SendV)
    (hl : Has w w.heap.size 5 encSd lv ss ∧ ss.length ≤ 9223372036854775807 ∧ ∀ s ∈ ss, datSd w s.dv s.data) :
    Calls Try.prog 4 #[.int .i64 most, .int .i64 maxMsg, .int .u64 last, lv] w fun e w' => e = .returned (.bool true) ∧ Below w.heap.size w w' := by
  obtain ⟨hS, hSm, hSd⟩ := hl
  obtain ⟨A, cap, rfl, hcap⟩ := hS.form
  obtain ⟨m, hm⟩ : ∃ m, ss.length = m := ⟨_, rfl⟩
  rw [hm] at hS hcap hSm ⊢
  have HS := Lib.hid hS
  have HD := Lib.hid hSd
  have HM := Lib.hid hm
  clear hS hSd hm hmost hmaxMsg hlast
  go_enter Try.func4, Try.ntmps4
  go_wp2_with fail
  go_loopw [9, 10] (fun q i wr => ∃ (n : Int) (k : Nat), q = .int .i64 n ∧ i = .int .i64 k ∧ k ≤ m ∧ 0 ≤ n ∧ n ≤ 1099511627776 ∧ Mod NoB w wr) (fun _ i _ => m - (intOf i).toNat)
  case atStart => exact ⟨0, 0, rfl, rfl, Nat.zero_le _, Int.le_refl _, by omega, Mod.refl _ _⟩
  case round =>
    obtain ⟨n, k, rfl, rfl, hk, hn0, hn1, hrel⟩ := hrel
    by_cases hgo : k < m ∧ n ≤ 2000
    · obtain ⟨hkm, hn2⟩ := hgo
      have hkz : (k : Int) < (m : Int) := by omega
      have hkz0 : (0 : Int) ≤ (k : Int) := by omega
      have hkx : k < ss.length := by rw [HM.out]; exact hkm
      have hx? := List.getElem?_eq_getElem hkx
      obtain ⟨g, off, rfl, hg, c0, c1, c2, c3, c4⟩ := (HS.out.later hrel (Nat.le_refl _)).atSd hx?
      have hdat := HD.out _ (List.getElem_mem hkx)
      generalize ss[k]'hkx = x at *
      obtain ⟨Ad, cd, hdv, -⟩ := hdat.1.form
      have hdl := hdat.2.2
      obtain ⟨l, hl⟩ : ∃ l, x.data.length = l := ⟨_, rfl⟩
      rw [hl] at hdv hdl
      rw [hdv] at c4
      have HA := Lib.hid (hrel.alloc (.cells #[.int .i64 l, .int .i64 1] 3))
      have HSU := Lib.hid (sumG n l wr.heap.size (wr.alloc (.cells #[.int .i64 l, .int .i64 1] 3)) ((Blk.new wr 3 #[.int .i64 l, .int .i64 1]).cell 0) ((Blk.new wr 3 #[.int .i64 l, .int .i64 1]).cell 1) hn0 hn1 (by omega) (by omega))
      clear hx? hkx hdat hl hdv c0 c1 c2 c3 hrel
      go_wp2_with fail
      refine HSU.out.mono ?_
      rintro e w3 ⟨⟨r, rfl, hr⟩, rfl⟩
      have hr0 : 0 ≤ r ∧ r ≤ 1099511627776 := by omega
      clear hr
      go_wp2_with fail
      go_roundw
      case rel => exact ⟨r, k + 1, rfl, by go_num, by omega, hr0.1, hr0.2, HA.out⟩
      case measure => simp [intOf]; omega
    · by_cases hbig : 2000 < n
      · have HW := Lib.hid hrel
        clear hrel
        have hsp : (k : Int) < (m : Int) ∨ ¬ (k : Int) < (m : Int) := by omega
        rcases hsp with hkz | hkz
        all_goals
          go_wp2_with fail
          refine (awakeW _).mono ?_
          rintro e w3 ⟨rfl, m3⟩
          have HM3 := Lib.hid (HW.out.trans m3 (fun _ _ e => e))
          clear m3
          go_wp2_with fail
          go_ret
          exact ⟨rfl, HM3.out.below⟩
      · have hkm : ¬ k < m := fun e => hgo ⟨e, by omega⟩
        obtain rfl : k = m := by omega
        have hkz : ¬ (k : Int) < (k : Int) := by omega
        have HW := Lib.hid hrel
        clear hrel hgo hkm
        by_cases hmay : sndMay most maxMsg last
        · have HN := Lib.hid (newSndW most maxMsg last wr hmay)
          go_wp2_with fail
          refine HN.out.mono ?_
          rintro e w1 ⟨sb, rfl, hs1, m1⟩
          have HN2 := Lib.hid (rnewW (B := w.heap.size) most maxMsg last w1 hmay (Nat.le_trans HW.out.size m1.size))
          have HS1 := Lib.hid hs1
          have HM1 := Lib.hid m1
          clear hs1 m1 HN
          go_wp2_with fail
          refine HN2.out.mono ?_
          rintro e w2 ⟨rfl, hr2, m2⟩
          have HI := Lib.hid (And.intro (LawS.new HW.out HS1.out HM1.out hr2 m2) (SndOk.new hmay))
          obtain ⟨rb, hrb⟩ : ∃ rb, w1.heap.size = rb := ⟨_, rfl⟩
          rw [hrb] at HI ⊢
          clear hr2 m2 HN2 HS1 HM1 hrb hmay HW
          go_wp2_with fail
          go_loopw [15] (fun q wr => ∃ (i : Nat) (S : SndA), q = .int .i64 i ∧ i ≤ k ∧ Hid ((∃ E, LawS E sb rb S S w wr) ∧ SndOk S)) (fun q _ => k - (intOf q).toNat)
          case atStart => exact ⟨0, _, rfl, by omega, Lib.hid ⟨⟨_, HI.out.1⟩, HI.out.2⟩⟩
          case round =>
            clear HI
            obtain ⟨i, S, rfl, hi, hrel⟩ := hrel
            obtain ⟨⟨E, hL⟩, hok⟩ := hrel.out
            by_cases hik : i < k
            · have hiz : (i : Int) < (k : Int) := by omega
              have hiz0 : (0 : Int) ≤ (i : Int) := by omega
              have hix : i < ss.length := by rw [HM.out]; exact hik
              have hx? := List.getElem?_eq_getElem hix
              obtain ⟨g, off, rfl, hg, c0, c1, c2, c3, c4⟩ := (HS.out.later hL.mod (Nat.le_refl _)).atSd hx?
              have hdat := HD.out _ (List.getElem_mem hix)
              generalize ss[i]'hix = x at *
              obtain ⟨kd, dst, xid, xn, dv, d⟩ := x
              dsimp only at c0 c1 c2 c3 c4 hdat
              obtain ⟨Ad, cd, rfl, -⟩ := hdat.1.form
              obtain ⟨l, hl⟩ : ∃ l, d.length = l := ⟨_, rfl⟩
              rw [hl] at c4 hdat
              have HDA := Lib.hid hdat.1
              have ha := (Mod.refl NoB wr).alloc (.cells #[.int .i64 kd, .int .i64 dst, .int .u64 xid, .int .i64 xn, .slice Ad l cd] 40)
              have HX1 := Lib.hid (Blk.new wr 40 #[.int .i64 kd, .int .i64 dst, .int .u64 xid, .int .i64 xn, .slice Ad l cd])
              have HL1 := Lib.hid (hL.re ha (Nat.le_refl _) (by simp))
              have HOK := Lib.hid hok
              obtain ⟨xb, hxb⟩ : ∃ xb, wr.heap.size = xb := ⟨_, rfl⟩
              have HXB := Lib.hid hxb
              obtain ⟨w1, hw1⟩ : ∃ w1, wr.alloc (.cells #[.int .i64 kd, .int .i64 dst, .int .u64 xid, .int .i64 xn, .slice Ad l cd] 40) = w1 := ⟨_, rfl⟩
              have HW1 := Lib.hid hw1
              rw [hw1, hxb] at HX1 HL1
              clear hx? hix hdat hl ha hL hok hrel hxb hw1
              go_upto_block 4 with fail
              rw [HW1.out, HXB.out]
              clear HW1 HXB c0 c1 c2 c3 c4
              have x0 : w1.cell? ⟨xb, 0, none⟩ = some (.int .i64 kd) := by rw [HX1.out.cell]; rfl
              have x1 : w1.cell? ⟨xb, 1, none⟩ = some (.int .i64 dst) := by rw [HX1.out.cell]; rfl
              have x2 : w1.cell? ⟨xb, 2, none⟩ = some (.int .u64 xid) := by rw [HX1.out.cell]; rfl
              have x3 : w1.cell? ⟨xb, 3, none⟩ = some (.int .i64 xn) := by rw [HX1.out.cell]; rfl
              have x4 : w1.cell? ⟨xb, 4, none⟩ = some (.slice Ad l cd) := by rw [HX1.out.cell]; rfl
              go_cut [17, 18, 19, 20] from 74 to 224 (fun _ _ _ _ wx => ∃ S' : SndA, Hid (LawS (fun k => k = xb) sb rb S' S' w wx ∧ SndOk S') ∧ Blk wx xb 40 #[.int .i64 kd, .int .i64 dst, .int .u64 xid, .int .i64 xn, .slice Ad l cd])
              case first =>
                by_cases k1 : kd = 1
                · subst k1
                  as_aux_lemma =>
                    have HC := Lib.hid (lawSub HL1.out HOK.out dst d (.slice Ad l cd) (HDA.out.later HL1.out.mod (Nat.le_refl _)))
                    have HOK2 := Lib.hid (HOK.out.subD dst d)
                    have HR := Lib.hid (fun (W : World) (h : LawS (fun k => k = xb) sb rb (S.subD dst d).2 S w W) => lawRSub h HOK.out dst d (.slice Ad l cd) rfl (HDA.out.later h.mod (Nat.le_refl _)))
                    generalize (S.subD dst d).2 = S' at *
                    generalize (S.subD dst d).1.1 = r1 at *
                    generalize (S.subD dst d).1.2 = r2 at *
                    have b1 : (r1 != r1) = false := by simp
                    have b2 : (r2 != r2) = false := by simp
                    go_wp2_with fail
                    refine HC.out.mono ?_
                    rintro e w3 ⟨rfl, h3, m3⟩
                    have hX3 := HX1.out.mod m3 (fun e => e rfl)
                    have y1 : w3.cell? ⟨xb, 1, none⟩ = some (.int .i64 dst) := by rw [hX3.cell]; rfl
                    have y4 : w3.cell? ⟨xb, 4, none⟩ = some (.slice Ad l cd) := by rw [hX3.cell]; rfl
                    have HX3 := Lib.hid hX3
                    have HR3 := Lib.hid (HR.out w3 h3)
                    clear h3 m3 hX3
                    go_wp2_with fail
                    refine HR3.out.mono ?_
                    rintro e w4 ⟨rfl, h4, m4⟩
                    have HX4 := Lib.hid (HX3.out.mod m4 (fun e => e rfl))
                    have HL4 := Lib.hid h4
                    clear h4 m4
                    go_wp2_with fail
                    go_meet
                    case rel => exact ⟨_, Lib.hid ⟨HL4.out, HOK2.out⟩, HX4.out⟩
                · have e1 : (kd == 1) = false := by simpa using k1
                  by_cases k2 : kd = 2
                  · subst k2
                    as_aux_lemma =>
                      have HC := Lib.hid (lawEnd (HL1.out.later (Mod.refl NoB w1).drew) HOK.out xid xn)
                      have HOK2 := Lib.hid (HOK.out.endD xid xn)
                      have HR := Lib.hid (fun (W : World) (h : LawS (fun k => k = xb) sb rb (S.endD xid xn).2 S w W) => lawREnd h HOK.out xid xn)
                      generalize (S.endD xid xn).2 = S' at *
                      generalize (S.endD xid xn).1 = r1 at *
                      have b1 : (r1 != r1) = false := by simp
                      go_wp2_with fail
                      go_region_held3 (fun w' => w'.cell? ⟨xb, 2, none⟩ = some (.int .u64 xid) ∧ w'.cell? ⟨xb, 3, none⟩ = some (.int .i64 xn)) (first | assumption | exact ⟨x2, x3⟩) (first
                        | (go_at_call 18; refine HC.out.mono ?_; rintro e w3 ⟨rfl, h3, m3⟩; have hX3 := HX1.out.drew.mod m3 (fun e => e rfl); have y2 : w3.cell? ⟨xb, 2, none⟩ = some (.int .u64 xid) := (by rw [hX3.cell]; rfl); have y3 : w3.cell? ⟨xb, 3, none⟩ = some (.int .i64 xn) := (by rw [hX3.cell]; rfl); have k3 := And.intro y2 y3; have HX3 := Lib.hid hX3; have HR3 := Lib.hid (HR.out w3 h3); clear h3 m3 hX3)
                        | (go_at_call 19; refine HR3.out.mono ?_; rintro e w4 ⟨rfl, h4, m4⟩; have hX4 := HX3.out.mod m4 (fun e => e rfl); have z2 : w4.cell? ⟨xb, 2, none⟩ = some (.int .u64 xid) := (by rw [hX4.cell]; rfl); have z3 : w4.cell? ⟨xb, 3, none⟩ = some (.int .i64 xn) := (by rw [hX4.cell]; rfl); have k4 := And.intro z2 z3; have HX4 := Lib.hid hX4; have HL4 := Lib.hid h4; clear h4 m4 hX4))
                      all_goals
                        go_wp2_with fail
                        go_meet
                        case rel => exact ⟨_, Lib.hid ⟨HL4.out, HOK2.out⟩, HX4.out⟩
                  · have e2 : (kd == 2) = false := by simpa using k2
                    by_cases k3 : kd = 3
                    · subst k3
                      as_aux_lemma =>
                        have HC := Lib.hid (lawFor (HL1.out.later (Mod.refl NoB w1).drew) HOK.out xid)
                        have HOK2 := Lib.hid (HOK.out.forD xid)
                        have HR := Lib.hid (fun (W : World) (h : LawS (fun k => k = xb) sb rb (S.forD xid).2 S w W) => lawRFor h HOK.out xid)
                        generalize (S.forD xid).2 = S' at *
                        generalize (S.forD xid).1 = r1 at *
                        have b1 : (r1 != r1) = false := by simp
                        go_wp2_with fail
                        go_region_held3 (fun w' => w'.cell? ⟨xb, 2, none⟩ = some (.int .u64 xid) ∧ w'.cell? ⟨xb, 3, none⟩ = some (.int .i64 xn)) (first | assumption | exact ⟨x2, x3⟩) (first
                          | (go_at_call 20; refine HC.out.mono ?_; rintro e w3 ⟨rfl, h3, m3⟩; have hX3 := HX1.out.drew.mod m3 (fun e => e rfl); have y2 : w3.cell? ⟨xb, 2, none⟩ = some (.int .u64 xid) := (by rw [hX3.cell]; rfl); have y3 : w3.cell? ⟨xb, 3, none⟩ = some (.int .i64 xn) := (by rw [hX3.cell]; rfl); have k3 := And.intro y2 y3; have HX3 := Lib.hid hX3; have HR3 := Lib.hid (HR.out w3 h3); clear h3 m3 hX3)
                          | (go_at_call 21; refine HR3.out.mono ?_; rintro e w4 ⟨rfl, h4, m4⟩; have hX4 := HX3.out.mod m4 (fun e => e rfl); have z2 : w4.cell? ⟨xb, 2, none⟩ = some (.int .u64 xid) := (by rw [hX4.cell]; rfl); have z3 : w4.cell? ⟨xb, 3, none⟩ = some (.int .i64 xn) := (by rw [hX4.cell]; rfl); have k4 := And.intro z2 z3; have HX4 := Lib.hid hX4; have HL4 := Lib.hid h4; clear h4 m4 hX4))
                        all_goals
                          go_wp2_with fail
                          go_meet
                          case rel => exact ⟨_, Lib.hid ⟨HL4.out, HOK2.out⟩, HX4.out⟩
                    · have e3 : (kd == 3) = false := by simpa using k3
                      go_wp2_with fail
                      go_meet
                      case rel => exact ⟨_, Lib.hid ⟨HL1.out, HOK.out⟩, HX1.out⟩
              case rest =>
                as_aux_lemma =>
                  obtain ⟨S', hLL, hX⟩ := hcut
                  clear HX1 HL1 HOK x0 x1 x2 x3 x4
                  obtain ⟨hL, hok⟩ := hLL.out
                  have HOK := Lib.hid hok
                  have HG := Lib.hid (lawGet hL hok xid)
                  obtain ⟨gid, gdst, gst, ok, hV, hR⟩ : ∃ (gid gdst gst : Int) (ok : Bool), (∀ v, getV (S'.getD xid) v = .tuple #[.agg #[.int .u64 gid, .int .i64 gdst, v, .int .i64 gst, .bool (ok && (gst == 2))], .bool ok]) ∧ (∀ v, getR (S'.getD xid) v = .tuple #[.agg #[.int .u64 gid, .int .i64 gdst, v, .int .i64 gst], .bool ok]) := by
                    rcases hgd : S'.getD xid with _ | a
                    · exact ⟨0, 0, 0, false, fun v => rfl, fun v => rfl⟩
                    · exact ⟨a.id, a.dst, a.st, true, fun v => by simp [getV], fun v => rfl⟩
                  have HRG := Lib.hid (fun (W : World) (h : LawS (fun k => k = xb) sb rb S' S' w W) => lawRGet h hok xid)
                  have x2 : wc.cell? ⟨xb, 2, none⟩ = some (.int .u64 xid) := by rw [hX.cell]; rfl
                  have hxl := hX.lt
                  have HX := Lib.hid hX
                  obtain ⟨gd, hgd⟩ : ∃ gd, datD (S'.getD xid) = gd := ⟨_, rfl⟩
                  rw [hgd] at HG HRG
                  obtain ⟨ld, hld⟩ : ∃ ld, gd.length = ld := ⟨_, rfl⟩
                  have HLD := Lib.hid hld
                  generalize S'.getD xid = og at *
                  obtain ⟨gk, hgk⟩ : ∃ gk, (ok && (gst == 2)) = gk := ⟨_, rfl⟩
                  rw [hgk] at hV
                  have HGK := Lib.hid hgk
                  have HV := Lib.hid hV
                  have HR := Lib.hid hR
                  clear hL hok hLL hX hV hR hgd hld hgk
                  go_wp2_with fail
                  refine HG.out.mono ?_
                  rintro e w3 ⟨⟨v, rfl, hv⟩, h3, m3⟩
                  rw [HV.out]
                  obtain ⟨A3, c3, rfl, -⟩ := hv.form
                  rw [HLD.out] at hv ⊢
                  have HX3 := Lib.hid (HX.out.mod m3 (fun e => e))
                  have x2' : w3.cell? ⟨xb, 2, none⟩ = some (.int .u64 xid) := by rw [HX3.out.cell]; rfl
                  have hxl3 := HX3.out.lt
                  have ha3 := (Mod.refl NoB w3).alloc (.cells #[.int .u64 gid, .int .i64 gdst, .slice A3 ld c3, .int .i64 gst, .bool gk] 56)
                  have HB3 := Lib.hid (Blk.new w3 56 #[.int .u64 gid, .int .i64 gdst, .slice A3 ld c3, .int .i64 gst, .bool gk])
                  have HV3 := Lib.hid (hv.later ha3 (Nat.le_refl _))
                  have HC3 := Lib.hid (HRG.out _ (h3.later ha3))
                  have HX4 := Lib.hid (HX3.out.mod ha3 (fun e => e))
                  clear hv h3 m3 x2 hxl HG HRG ha3
                  go_wp2_with fail
                  refine HC3.out.mono ?_
                  rintro e w5 ⟨⟨v, rfl, hv⟩, h5, m5⟩
                  rw [HR.out]
                  obtain ⟨A5, c5, rfl, -⟩ := hv.form
                  rw [HLD.out] at hv ⊢
                  have HX5 := Lib.hid (HX4.out.mod m5 (fun e => e))
                  have HB5 := Lib.hid (HB3.out.mod m5 (fun e => e))
                  obtain ⟨ob, hob⟩ : ∃ ob, w3.heap.size = ob := ⟨_, rfl⟩
                  rw [hob] at HB5 ⊢
                  have ha5 := (Mod.refl NoB w5).alloc (.cells #[.int .u64 gid, .int .i64 gdst, .slice A5 ld c5, .int .i64 gst] 60)
                  have HB6 := Lib.hid (Blk.new w5 60 #[.int .u64 gid, .int .i64 gdst, .slice A5 ld c5, .int .i64 gst])
                  have HB7 := Lib.hid (HB5.out.mod ha5 (fun e => e))
                  have HV5 := Lib.hid (hv.later ha5 (Nat.le_refl _))
                  have HV6 := Lib.hid ((HV3.out.later m5 (show w3.heap.size ≤ _ by simp)).later ha5 (Nat.le_trans (show w3.heap.size ≤ (w3.alloc (.cells #[.int .u64 gid, .int .i64 gdst, .slice A3 ld c3, .int .i64 gst, .bool gk] 56)).heap.size by simp) m5.size))
                  have HL6 := Lib.hid (h5.later ha5)
                  have HX6 := Lib.hid (HX5.out.mod ha5 (fun e => e))
                  clear hv h5 m5 x2' hxl3 HC3 ha5 hob HX HX3 HX4 HX5 HB3 HB5 HV3
                  go_upto_region 32 with fail
                  obtain ⟨pb, hpb⟩ : ∃ pb, w5.heap.size = pb := ⟨_, rfl⟩
                  rw [hpb] at HB6 ⊢
                  generalize w5.alloc (.cells #[.int .u64 gid, .int .i64 gdst, .slice A5 ld c5, .int .i64 gst] 60) = W6 at *
                  have o0 : W6.cell? ⟨ob, 0, none⟩ = some (.int .u64 gid) := by rw [HB7.out.cell]; rfl
                  have o1 : W6.cell? ⟨ob, 1, none⟩ = some (.int .i64 gdst) := by rw [HB7.out.cell]; rfl
                  have o2 : W6.cell? ⟨ob, 2, none⟩ = some (.slice A3 ld c3) := by rw [HB7.out.cell]; rfl
                  have o3 : W6.cell? ⟨ob, 3, none⟩ = some (.int .i64 gst) := by rw [HB7.out.cell]; rfl
                  have o4 : W6.cell? ⟨ob, 4, none⟩ = some (.bool gk) := by rw [HB7.out.cell]; rfl
                  have p0 : W6.cell? ⟨pb, 0, none⟩ = some (.int .u64 gid) := by rw [HB6.out.cell]; rfl
                  have p1 : W6.cell? ⟨pb, 1, none⟩ = some (.int .i64 gdst) := by rw [HB6.out.cell]; rfl
                  have p2 : W6.cell? ⟨pb, 2, none⟩ = some (.slice A5 ld c5) := by rw [HB6.out.cell]; rfl
                  have p3 : W6.cell? ⟨pb, 3, none⟩ = some (.int .i64 gst) := by rw [HB6.out.cell]; rfl
                  have hcv1 : (convert 30 9 (.slice A3 ld c3)).run Try.prog W6 = .ok (.string (strOfNums gd)) W6 := run_string_has Try.underlying30 Try.underlying5 Try.underlying9 HV6.out
                  have hcv2 : (convert 30 9 (.slice A5 ld c5)).run Try.prog W6 = .ok (.string (strOfNums gd)) W6 := run_string_has Try.underlying30 Try.underlying5 Try.underlying9 HV5.out
                  generalize strOfNums gd = sT at *
                  have hss : (sT.toList == sT.toList) = true := beq_self_eq_true _
                  have n1 : (gid != gid) = false := by simp
                  have n2 : (gdst != gdst) = false := by simp
                  have n3 : (gst != gst) = false := by simp
                  have x1 : W6.cell? ⟨xb, 1, none⟩ = some (.int .i64 dst) := by rw [HX6.out.cell]; rfl
                  obtain ⟨Ar, cr, c4, hrl⟩ := HL6.out.rblk
                  obtain ⟨nn, hnn⟩ : ∃ nn, S'.l.length = nn := ⟨_, rfl⟩
                  have HLEN := Lib.hid (lawLenS (HL6.out.later (Mod.refl NoB W6).drew))
                  rw [hnn] at c4 HLEN
                  have HO7 := Lib.hid (lawOpen (HL6.out.later (Mod.refl NoB W6).drew) HOK.out)
                  have S34 : Hid (∀ w' : World, Mod (fun _ => False) W6 w' → Mod (fun _ => False) W6 w' ∧ w'.cell? ⟨rb, 4, none⟩ = some (.slice Ar nn cr) ∧ w'.cell? ⟨xb, 1, none⟩ = some (.int .i64 dst)) := Lib.hid fun w' m' => ⟨m', (m'.cell (p := ⟨rb, 4, none⟩) hrl (fun e => e)).trans c4, (m'.cell (p := ⟨xb, 1, none⟩) HX6.out.lt (fun e => e)).trans x1⟩
                  have n4 : ((nn : Int) != (nn : Int)) = false := by simp
                  have n5 : (lowA S' dst != lowA S' dst) = false := by simp
                  have HOL : Hid ((openA S'.l).length ≤ 1000000) := Lib.hid (Nat.le_trans (openA_le _) HOK.out.n)
                  clear HB6 HB7 HV5 HV6 hpb hnn
                  have hcase : (ok = false ∧ gk = false) ∨ (ok = true ∧ gk = (gst == 2)) := by
                    have := HGK.out
                    cases ok
                    · exact .inl ⟨rfl, by rw [← this]; rfl⟩
                    · exact .inr ⟨rfl, by rw [← this]; simp⟩
                  have n6 : ((gst == 2) != (gst == 2)) = false := by simp
                  clear HGK HV HR
                  rcases hcase with ⟨rfl, rfl⟩ | ⟨rfl, rfl⟩
                  all_goals
                    go_wp2_with fail
                    go_region_held3 (fun w' => Mod (fun _ => False) W6 w' ∧ w'.cell? ⟨rb, 4, none⟩ = some (.slice Ar nn cr) ∧ w'.cell? ⟨xb, 1, none⟩ = some (.int .i64 dst))
                      (first | assumption | exact S34.out _ (Mod.refl _ _).drew)
                      (first
                        | (go_at_call 24; refine HLEN.out.mono ?_; rintro e w7 ⟨rfl, rfl⟩)
                        | (go_at_call 26; refine HO7.out.mono ?_; rintro e w8 ⟨⟨v8, rfl, hv8⟩, h8, m8⟩; have k8 := S34.out w8 ((Mod.refl NoB W6).drew.trans m8 (fun _ _ e => e)); have HO8 := Lib.hid (lawROpen h8 HOK.out); have HV8 := Lib.hid hv8; clear hv8 h8 m8)
                        | (go_at_call 27; refine HO8.out.mono ?_; rintro e w9 ⟨⟨v9, rfl, hv9⟩, h9, m9⟩; have k9 := S34.out w9 (k8.1.trans m9 (fun _ _ e => e)); have HWA := Lib.hid (wordsAlike _ _ _ _ _ w9 (HV8.out.later m9 (Nat.le_refl _)) hv9 HOL.out); have HL9 := Lib.hid h9; clear hv9 h9 m9)
                        | (go_at_call 25; refine HWA.out.mono ?_; rintro e w10 ⟨rfl, m10⟩; have k10 := S34.out w10 (k9.1.trans m10 (fun _ _ e => e)); have HLO := Lib.hid (lawLow (HL9.out.later m10) HOK.out dst); clear m10)
                        | (go_at_call 28; refine HLO.out.mono ?_; rintro e w11 ⟨rfl, h11, m11⟩; have k11 := S34.out w11 (k10.1.trans m11 (fun _ _ e => e)); have HRL := Lib.hid (lawRLow h11 HOK.out dst); clear h11 m11)
                        | (go_at_call 29; refine HRL.out.mono ?_; rintro e w12 ⟨rfl, h12, m12⟩; have k12 := S34.out w12 (k11.1.trans m12 (fun _ _ e => e)); have HL12 := Lib.hid h12; clear h12 m12))
                    all_goals
                      go_wp2_with fail
                      go_roundw
                      case rel => exact ⟨i + 1, _, by go_num, by omega, Lib.hid ⟨⟨_, HL12.out⟩, HOK.out⟩⟩
                      case measure => simp [intOf]; omega
            · obtain rfl : i = k := by omega
              have hiz : ¬ (i : Int) < (i : Int) := by omega
              have HW := Lib.hid hL.mod
              clear hL hok hrel
              go_wp2_with fail
              refine (awakeW _).mono ?_
              rintro e w3 ⟨rfl, m3⟩
              have HM3 := Lib.hid (HW.out.trans m3 (fun _ _ e => e))
              clear m3
              go_wp2_with fail
              go_ret
              exact ⟨rfl, HM3.out.below⟩
        · have HN := Lib.hid (newSndNo most maxMsg last wr hmay)
          have HRN := Lib.hid (fun W => rnewNo most maxMsg last W hmay)
          clear hmay
          go_wp2_with fail
          refine HN.out.mono ?_
          rintro e w1 ⟨rfl, m1⟩
          have HM1 := Lib.hid (HW.out.trans m1 (fun _ _ e => e))
          clear m1
          go_wp2_with fail
          refine (HRN.out w1).mono ?_
          rintro e w2 ⟨rfl, rfl⟩
          go_wp2_with fail
          refine (awakeW _).mono ?_
          rintro e w3 ⟨rfl, m3⟩
          have HM3 := Lib.hid (HM1.out.trans m3 (fun _ _ e => e))
          clear m3
          go_wp2_with fail
          go_ret
          exact ⟨rfl, HM3.out.below⟩
end Go.Proofs.Ytddnlbkocmpffaa
