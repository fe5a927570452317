/- The walk of TopRates, where the rate may be. -/
import Derived.Test.YtigkndbkaagboaaGreatDoorRatV
import Derived.Test.YtigkndbkaagboaaGreatDoorRatX
import Derived.Test.YtigkndbkaagboaaGreatDoorZPulE
import Derived.Test.YtigkndbkaagboaaGreatDoorZTopA
import Derived.Test.YtigkndbkaagboaaGreatDoorTeE
import Derived.Deep.RegionHeld3
namespace Go.Proofs.YtigkndbkaagboaaGreatDoor
open Go.RowKit
set_option linter.unusedVariables false
set_option linter.unusedSimpArgs false
set_option maxHeartbeats 8000000
set_option maxRecDepth 100000
theorem walk_yes (A1 A2 : Option Addr) (ns c1 nl c2 : Nat) (sent lost : List Int) (most target : Int) (N : Nat) (w : World) (E : EnvT w) (hs : Has w w.heap.size 1 encI (.slice A1 ns c1) sent) (hl : Has w w.heap.size 1 encI (.slice A2 nl c2) lost) (hns : sent.length = ns) (hnl : lost.length = nl) (h60 : ns ≤ 60) (n1 : 1 ≤ N) (n8 : N ≤ 8) (ha : askC most target) :
    Calls Tryz.prog 4 #[.int .i64 most, .int .i64 target, .slice A1 ns c1, .slice A2 nl c2, .int .i64 (N : Int)] w fun e w' => e = .returned (.bool true) ∧ Mod (fun _ => False) w w' := by
  have hc1 := newRateW most target ha w
  have hok0 := newC_ok ha
  have HC2 := Lib.hid fun w' => refNewW most target ha w'
  have HC1 := Lib.hid hc1
  have HOK0 := Lib.hid hok0
  have HE := Lib.hid E
  have HS := Lib.hid hs
  have HL := Lib.hid hl
  have HNS := Lib.hid hns
  have HNL := Lib.hid hnl
  have y1 : ¬ (60 : Int) < (ns : Int) := by omega
  have y2 : ¬ (N : Int) < 1 := by omega
  have y3 : ¬ (8 : Int) < (N : Int) := by omega
  clear E hs hl ha hc1 hok0 hns hnl
  go_enter Tryz.func4, Tryz.ntmps4
  go_wp2_with fail
  refine HC1.out.mono ?_
  rintro e wa ⟨rfl, ra, ma⟩
  obtain ⟨b1, hb1⟩ : ∃ b1, w.heap.size = b1 := ⟨_, rfl⟩
  rw [hb1] at ra ⊢
  have HB1 := Lib.hid hb1
  have HRA := Lib.hid ra
  have HMA := Lib.hid ma
  clear ra ma hb1
  go_wp2_with fail
  refine (HC2.out _).mono ?_
  rintro e wb ⟨rfl, rb, mb⟩
  obtain ⟨b2, hb2⟩ : ∃ b2, wa.heap.size = b2 := ⟨_, rfl⟩
  rw [hb2] at rb ⊢
  have hne : b1 ≠ b2 := by have := HRA.out.lt; omega
  have HMB := Lib.hid (HMA.out.trans mb (fun _ _ e => e))
  have HRA2 := Lib.hid (show RateAt wb b1 (newC most target) from Blk.mod mb HRA.out (fun e => e))
  have HRB := Lib.hid rb
  have HB2 := Lib.hid (show w.heap.size ≤ b2 from hb2 ▸ HMA.out.size)
  have HNE := Lib.hid hne
  clear rb mb hb2 hne
  go_wp2_with fail
  go_loopw [15] (fun i wr => ∃ (q : Nat) (s : CrS), i = .int .i64 q ∧ q ≤ ns ∧ CrOk s ∧ s.n ≤ q ∧ RateAt wr b1 s ∧ RefAt wr b2 s ∧ Mod (fun _ => False) w wr) (fun i _ => ns - (intOf i).toNat)
  case atStart => exact ⟨0, newC most target, rfl, by omega, HOK0.out, by show (0 : Int) ≤ _; omega, HRA2.out, HRB.out, HMB.out⟩
  case round =>
    obtain ⟨q, s, rfl, hq, hok, hsn, h1, h2, hm⟩ := hrel
    have HMW := Lib.hid hm
    by_cases z1 : q < ns
    · have z1' : (q : Int) < (ns : Int) := by omega
      by_cases z2 : q < nl
      · have z2' : (q : Int) < (nl : Int) := by omega
        have x1 := List.getElem?_eq_getElem (show q < sent.length by rw [HNS.out]; exact z1)
        have x2 := List.getElem?_eq_getElem (show q < lost.length by rw [HNL.out]; exact z2)
        obtain ⟨g1, o1, rfl, hg1, k1⟩ := (HS.out.later hm (Nat.le_refl _)).atI x1
        obtain ⟨g2, o2, rfl, hg2, k2⟩ := (HL.out.later hm (Nat.le_refl _)).atI x2
        generalize sent[q]'(by rw [HNS.out]; exact z1) = x at *
        generalize lost[q]'(by rw [HNL.out]; exact z2) = y at *
        have HU := Lib.hid (updateW b1 s x y hok (by omega) wr.drew (show RateAt wr.drew b1 s from h1))
        have HV := Lib.hid (fun (W : World) (h : RefAt W b2 s) => refUpdateW b2 s x y hok (by omega) W h)
        have HOK := Lib.hid (updC_ok hok x y)
        have HN2 := Lib.hid (show (updC s x y).n ≤ q + 1 by have := updC_n s x y; omega)
        have H2 := Lib.hid (show RefAt wr.drew b2 s from h2)
        have ee : ((updC s x y).R != (updC s x y).R) = false := by simp
        generalize updC s x y = s' at *
        generalize s'.R = rr at *
        have q1 : g1 ≠ b1 := by have := HB1.out; omega
        have q2 : g1 ≠ b2 := by have := HB2.out; omega
        have q3 : g2 ≠ b1 := by have := HB1.out; omega
        have q4 : g2 ≠ b2 := by have := HB2.out; omega
        have q5 : g1 < wr.heap.size := Nat.lt_of_lt_of_le hg1 hm.size
        have q6 : g2 < wr.heap.size := Nat.lt_of_lt_of_le hg2 hm.size
        clear x1 x2 h1 h2 hok hsn hm
        go_upto_region 10 with fail
        go_region_held3 (fun w' => w'.cell? ⟨g1, o1 + q, none⟩ = some (.int .i64 x) ∧ w'.cell? ⟨g2, o2 + q, none⟩ = some (.int .i64 y)) (first | assumption | exact ⟨k1, k2⟩)
          (first
            | (go_at_call 14; refine HU.out.mono ?_; rintro e w3 ⟨rfl, h3, m3⟩; have k13 : w3.cell? ⟨g1, o1 + q, none⟩ = some (.int .i64 x) := (m3.cell (p := ⟨g1, o1 + q, none⟩) q5 q1).trans k1; have k23 : w3.cell? ⟨g2, o2 + q, none⟩ = some (.int .i64 y) := (m3.cell (p := ⟨g2, o2 + q, none⟩) q6 q3).trans k2; have k3 := And.intro k13 k23; have q7 : g1 < w3.heap.size := Nat.lt_of_lt_of_le q5 m3.size; have q8 : g2 < w3.heap.size := Nat.lt_of_lt_of_le q6 m3.size; have HR3 := Lib.hid (HV.out w3 (Blk.mod m3 H2.out (fun e => HNE.out e.symm))); have H3 := Lib.hid h3; have M3 := Lib.hid m3; clear h3 m3)
            | (go_at_call 15; refine HR3.out.mono ?_; rintro e w4 ⟨rfl, h4, m4⟩; have k14 : w4.cell? ⟨g1, o1 + q, none⟩ = some (.int .i64 x) := (m4.cell (p := ⟨g1, o1 + q, none⟩) q7 q2).trans k13; have k24 : w4.cell? ⟨g2, o2 + q, none⟩ = some (.int .i64 y) := (m4.cell (p := ⟨g2, o2 + q, none⟩) q8 q4).trans k23; have k4 := And.intro k14 k24; have H4 := Lib.hid h4; have H34 := Lib.hid (show RateAt w4 b1 s' from Blk.mod m4 H3.out HNE.out); have M4 := Lib.hid m4; clear h4 m4))
        all_goals
          go_wp2_with fail
          go_roundw
          case rel => exact ⟨q + 1, s', by go_num, by omega, HOK.out, HN2.out, H34.out, H4.out, ((HMW.out.drew.trans M3.out (fun i hi e => by have := HB1.out; omega)).trans M4.out (fun i hi e => by have := HB2.out; omega))⟩
          case measure => simp [intOf]; omega
      · have z2' : ¬ (q : Int) < (nl : Int) := by omega
        clear h1 h2 hok hsn hm
        have hpw : Pow wr := HE.out.pow.later HMW.out
        obtain ⟨Sp, hw, hc⟩ := pulNewW wr (gl_of_pow hpw)
        have HW := Lib.hid (hw N (by omega) (by omega))
        have HC := Lib.hid hc
        clear hw hc hpw
        go_wp2_with fail
        refine HC.out.mono ?_
        rintro e w2 ⟨qv, rfl, ⟨gq, rfl⟩, hp⟩
        have HP := Lib.hid hp
        clear hp
        go_wp2_with fail
        generalize wr = W0 at *
        go_loopw [18] (fun p w3 => ∃ (k : Nat) (S : Ev.St), p = .int .i64 k ∧ k ≤ N ∧ wantsOk N (N - k) k S = true ∧ PulAt W0 S (.pointer (some gq)) w3) (fun p _ => N - (intOf p).toNat)
        case atStart => exact ⟨0, Sp, rfl, by omega, HW.out, HP.out⟩
        case round =>
          obtain ⟨k, S, rfl, hk, hwk, hpk⟩ := hrel
          by_cases hkn : k < N
          · obtain ⟨d, hd⟩ : ∃ d, N - k = d + 1 := ⟨N - k - 1, by omega⟩
            rw [hd] at hwk
            obtain ⟨S', h1, hc⟩ := wantW hpk hwk
            have hd2 : N - (k + 1) = d := by omega
            have HC2 := Lib.hid hc
            have H1 := Lib.hid h1
            clear hwk hpk h1 hc hd
            go_wp2_with fail
            refine HC2.out.mono ?_
            rintro e w4 ⟨rfl, hp4⟩
            have HP4 := Lib.hid hp4
            clear hp4
            go_wp2_with fail
            go_roundw
            case rel => exact ⟨k + 1, S', by go_num, by omega, by rw [hd2]; exact H1.out, HP4.out⟩
            case measure => simp [intOf]; omega
          · obtain rfl : k = N := by omega
            rw [Nat.sub_self] at hwk
            have HN := Lib.hid (wants_end hwk)
            have HP5 := Lib.hid hpk
            clear hwk hpk
            go_wp2_with fail
            go_loopw [19, 20, 21, 22, 23] (fun i _ _ _ _ w3 => ∃ (j : Nat) (S : Ev.St), i = .int .i64 j ∧ j ≤ 2 * k ∧ nextsOk k (2 * k - j) j S = true ∧ PulAt W0 S (.pointer (some gq)) w3) (fun i _ _ _ _ _ => 2 * k - (intOf i).toNat)
            case atStart => exact ⟨0, S, rfl, by omega, HN.out, HP5.out⟩
            case round =>
              obtain ⟨j, S2, rfl, hj, hwj, hpj⟩ := hrel
              by_cases hjn : j < 2 * k
              · obtain ⟨d, hd⟩ : ∃ d, 2 * k - j = d + 1 := ⟨2 * k - j - 1, by omega⟩
                rw [hd] at hwj
                obtain ⟨S', h1, hc⟩ := nextW hpj hwj
                have hd2 : 2 * k - (j + 1) = d := by omega
                have HC2 := Lib.hid hc
                have H1 := Lib.hid h1
                have z1 : (j : Int) < 2 * (k : Int) := by omega
                have z2 : ((k : Int) == 0) = false := by simp; omega
                have z3 : ¬ (k : Int) = 0 := by omega
                have z4 : (j : Int).tmod (k : Int) = ((j % k : Nat) : Int) := by rw [Int.tmod_eq_emod_of_nonneg (by omega)]; rfl
                have z5 : (j : Int).tdiv (k : Int) = ((j / k : Nat) : Int) := by rw [Int.tdiv_eq_ediv_of_nonneg (by omega)]; rfl
                have z6 : (j : Int) % (k : Int) = ((j % k : Nat) : Int) := rfl
                have z7 : (j : Int) / (k : Int) = ((j / k : Nat) : Int) := rfl
                have hjk : j / k ≤ j := Nat.div_le_self _ _
                have hjm : j % k ≤ j := Nat.mod_le _ _
                have z8 : IntKind.i64.wrap ((j / k : Nat) : Int) = ((j / k : Nat) : Int) := by generalize j / k = jd at *; rw [IntKind.wrap_i64]; omega
                have e1 : (((j % k : Nat) : Int) != ((j % k : Nat) : Int)) = false := by simp
                have e2 : (((1 + j / k : Nat) : Int) != 1 + ((j / k : Nat) : Int)) = false := by simp
                have e3 : ((1 + j / k : Nat) : Int) = 1 + ((j / k : Nat) : Int) := by omega
                clear hwj hpj h1 hc hd
                generalize hmm : j % k = jm at *
                generalize hdd : j / k = jd at *
                clear hmm hdd
                have e4 : ((1 : Int) + (jd : Int) != 1 + (jd : Int)) = false := by simp
                go_wp2_with fail
                refine HC2.out.mono ?_
                rintro e w4 ⟨rfl, hp4⟩
                have HP4 := Lib.hid hp4
                clear hp4
                rw [e3]
                go_wp2_with fail
                go_roundw
                case rel => exact ⟨j + 1, S', by go_num, by omega, by rw [hd2]; exact H1.out, HP4.out⟩
                case measure => simp [intOf]; omega
              · obtain rfl : j = 2 * k := by omega
                rw [Nat.sub_self] at hwj
                have hc := lenW hpj hwj
                have HC2 := Lib.hid hc
                clear hwj hpj hc
                go_wp2_with fail
                refine HC2.out.mono ?_
                rintro e w4 ⟨rfl, hb4⟩
                have M4 := Lib.hid (HMW.out.trans (Mod.ofBelow hb4) (fun _ _ e => e))
                have hc := awakeTop w4 (HE.out.pow.later M4.out)
                have HC3 := Lib.hid hc
                clear hb4 hc
                go_wp2_with fail
                refine HC3.out.mono ?_
                rintro e w5 ⟨rfl, m5⟩
                have M5 := Lib.hid (M4.out.trans m5 (fun _ _ e => e))
                clear m5
                go_wp2_with fail
                go_ret
                exact ⟨rfl, M5.out⟩
    · have z1' : ¬ (q : Int) < (ns : Int) := by omega
      clear h1 h2 hok hsn hm
      have hpw : Pow wr := HE.out.pow.later HMW.out
      obtain ⟨Sp, hw, hc⟩ := pulNewW wr (gl_of_pow hpw)
      have HW := Lib.hid (hw N (by omega) (by omega))
      have HC := Lib.hid hc
      clear hw hc hpw
      go_wp2_with fail
      refine HC.out.mono ?_
      rintro e w2 ⟨qv, rfl, ⟨gq, rfl⟩, hp⟩
      have HP := Lib.hid hp
      clear hp
      go_wp2_with fail
      generalize wr = W0 at *
      go_loopw [18] (fun p w3 => ∃ (k : Nat) (S : Ev.St), p = .int .i64 k ∧ k ≤ N ∧ wantsOk N (N - k) k S = true ∧ PulAt W0 S (.pointer (some gq)) w3) (fun p _ => N - (intOf p).toNat)
      case atStart => exact ⟨0, Sp, rfl, by omega, HW.out, HP.out⟩
      case round =>
        obtain ⟨k, S, rfl, hk, hwk, hpk⟩ := hrel
        by_cases hkn : k < N
        · obtain ⟨d, hd⟩ : ∃ d, N - k = d + 1 := ⟨N - k - 1, by omega⟩
          rw [hd] at hwk
          obtain ⟨S', h1, hc⟩ := wantW hpk hwk
          have hd2 : N - (k + 1) = d := by omega
          have HC2 := Lib.hid hc
          have H1 := Lib.hid h1
          clear hwk hpk h1 hc hd
          go_wp2_with fail
          refine HC2.out.mono ?_
          rintro e w4 ⟨rfl, hp4⟩
          have HP4 := Lib.hid hp4
          clear hp4
          go_wp2_with fail
          go_roundw
          case rel => exact ⟨k + 1, S', by go_num, by omega, by rw [hd2]; exact H1.out, HP4.out⟩
          case measure => simp [intOf]; omega
        · obtain rfl : k = N := by omega
          rw [Nat.sub_self] at hwk
          have HN := Lib.hid (wants_end hwk)
          have HP5 := Lib.hid hpk
          clear hwk hpk
          go_wp2_with fail
          go_loopw [19, 20, 21, 22, 23] (fun i _ _ _ _ w3 => ∃ (j : Nat) (S : Ev.St), i = .int .i64 j ∧ j ≤ 2 * k ∧ nextsOk k (2 * k - j) j S = true ∧ PulAt W0 S (.pointer (some gq)) w3) (fun i _ _ _ _ _ => 2 * k - (intOf i).toNat)
          case atStart => exact ⟨0, S, rfl, by omega, HN.out, HP5.out⟩
          case round =>
            obtain ⟨j, S2, rfl, hj, hwj, hpj⟩ := hrel
            by_cases hjn : j < 2 * k
            · obtain ⟨d, hd⟩ : ∃ d, 2 * k - j = d + 1 := ⟨2 * k - j - 1, by omega⟩
              rw [hd] at hwj
              obtain ⟨S', h1, hc⟩ := nextW hpj hwj
              have hd2 : 2 * k - (j + 1) = d := by omega
              have HC2 := Lib.hid hc
              have H1 := Lib.hid h1
              have z1 : (j : Int) < 2 * (k : Int) := by omega
              have z2 : ((k : Int) == 0) = false := by simp; omega
              have z3 : ¬ (k : Int) = 0 := by omega
              have z4 : (j : Int).tmod (k : Int) = ((j % k : Nat) : Int) := by rw [Int.tmod_eq_emod_of_nonneg (by omega)]; rfl
              have z5 : (j : Int).tdiv (k : Int) = ((j / k : Nat) : Int) := by rw [Int.tdiv_eq_ediv_of_nonneg (by omega)]; rfl
              have z6 : (j : Int) % (k : Int) = ((j % k : Nat) : Int) := rfl
              have z7 : (j : Int) / (k : Int) = ((j / k : Nat) : Int) := rfl
              have hjk : j / k ≤ j := Nat.div_le_self _ _
              have hjm : j % k ≤ j := Nat.mod_le _ _
              have z8 : IntKind.i64.wrap ((j / k : Nat) : Int) = ((j / k : Nat) : Int) := by generalize j / k = jd at *; rw [IntKind.wrap_i64]; omega
              have e1 : (((j % k : Nat) : Int) != ((j % k : Nat) : Int)) = false := by simp
              have e2 : (((1 + j / k : Nat) : Int) != 1 + ((j / k : Nat) : Int)) = false := by simp
              have e3 : ((1 + j / k : Nat) : Int) = 1 + ((j / k : Nat) : Int) := by omega
              clear hwj hpj h1 hc hd
              generalize hmm : j % k = jm at *
              generalize hdd : j / k = jd at *
              clear hmm hdd
              have e4 : ((1 : Int) + (jd : Int) != 1 + (jd : Int)) = false := by simp
              go_wp2_with fail
              refine HC2.out.mono ?_
              rintro e w4 ⟨rfl, hp4⟩
              have HP4 := Lib.hid hp4
              clear hp4
              rw [e3]
              go_wp2_with fail
              go_roundw
              case rel => exact ⟨j + 1, S', by go_num, by omega, by rw [hd2]; exact H1.out, HP4.out⟩
              case measure => simp [intOf]; omega
            · obtain rfl : j = 2 * k := by omega
              rw [Nat.sub_self] at hwj
              have hc := lenW hpj hwj
              have HC2 := Lib.hid hc
              clear hwj hpj hc
              go_wp2_with fail
              refine HC2.out.mono ?_
              rintro e w4 ⟨rfl, hb4⟩
              have M4 := Lib.hid (HMW.out.trans (Mod.ofBelow hb4) (fun _ _ e => e))
              have hc := awakeTop w4 (HE.out.pow.later M4.out)
              have HC3 := Lib.hid hc
              clear hb4 hc
              go_wp2_with fail
              refine HC3.out.mono ?_
              rintro e w5 ⟨rfl, m5⟩
              have M5 := Lib.hid (M4.out.trans m5 (fun _ _ e => e))
              clear m5
              go_wp2_with fail
              go_ret
              exact ⟨rfl, M5.out⟩
end Go.Proofs.YtigkndbkaagboaaGreatDoor
