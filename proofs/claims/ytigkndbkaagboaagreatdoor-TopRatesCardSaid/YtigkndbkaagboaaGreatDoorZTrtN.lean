/- The walk of TopRates. -/
import Derived.Test.YtigkndbkaagboaaGreatDoorRatV
import Derived.Test.YtigkndbkaagboaaGreatDoorRatX
import Derived.Test.YtigkndbkaagboaaGreatDoorZPulE
import Derived.Test.YtigkndbkaagboaaGreatDoorZTopA
import Derived.Test.YtigkndbkaagboaaGreatDoorTeE
import Derived.Deep.RegionHeld3
namespace Go.Proofs.YtigkndbkaagboaaGreatDoor
open Go.RowKit
set_option linter.unusedVariables false
set_option linter.unusedSimpArgs false
set_option maxHeartbeats 8000000
set_option maxRecDepth 100000
theorem walk_no (A1 A2 : Option Addr) (ns c1 nl c2 : Nat) (sent lost : List Int) (most target : Int) (N : Nat) (w : World) (E : EnvT w) (hs : Has w w.heap.size 1 encI (.slice A1 ns c1) sent) (hl : Has w w.heap.size 1 encI (.slice A2 nl c2) lost) (hns : sent.length = ns) (hnl : lost.length = nl) (h60 : ns ≤ 60) (n1 : 1 ≤ N) (n8 : N ≤ 8) (ha : ¬ askC most target) :
    Calls Tryz.prog 4 #[.int .i64 most, .int .i64 target, .slice A1 ns c1, .slice A2 nl c2, .int .i64 (N : Int)] w fun e w' => e = .returned (.bool true) ∧ Mod (fun _ => False) w w' := by
  have C1 := Lib.hid fun w' => newRateNo most target ha w'
  have C2 := Lib.hid fun w' => refNewNo most target ha w'
  have HE := Lib.hid E
  have y1 : ¬ (60 : Int) < (ns : Int) := by omega
  have y2 : ¬ (N : Int) < 1 := by omega
  have y3 : ¬ (8 : Int) < (N : Int) := by omega
  clear E hs hl ha
  go_enter Tryz.func4, Tryz.ntmps4
  go_wp2_with fail
  refine (C1.out _).mono ?_
  rintro e w' ⟨rfl, rfl⟩
  go_wp2_with fail
  refine (C2.out _).mono ?_
  rintro e w' ⟨rfl, rfl⟩
  go_wp2_with fail
  go_loopw [15] (fun i wr => i = .int .i64 0 ∧ Mod (fun _ => False) w wr) (fun _ _ => 0)
  case atStart => exact ⟨rfl, Mod.refl _ _⟩
  case round =>
    obtain ⟨rfl, hm⟩ := hrel
    have HMW := Lib.hid hm
    clear hm
    by_cases z1 : 0 < ns
    · have z1' : (0 : Int) < (ns : Int) := by omega
      by_cases z2 : 0 < nl
      · have z2' : (0 : Int) < (nl : Int) := by omega
        have hpw : Pow wr := HE.out.pow.later HMW.out
        obtain ⟨Sp, hw, hc⟩ := pulNewW wr (gl_of_pow hpw)
        have HW := Lib.hid (hw N (by omega) (by omega))
        have HC := Lib.hid hc
        clear hw hc hpw
        go_wp2_with fail
        refine HC.out.mono ?_
        rintro e w2 ⟨qv, rfl, ⟨gq, rfl⟩, hp⟩
        have HP := Lib.hid hp
        clear hp
        go_wp2_with fail
        generalize wr = W0 at *
        go_loopw [18] (fun p w3 => ∃ (k : Nat) (S : Ev.St), p = .int .i64 k ∧ k ≤ N ∧ wantsOk N (N - k) k S = true ∧ PulAt W0 S (.pointer (some gq)) w3) (fun p _ => N - (intOf p).toNat)
        case atStart => exact ⟨0, Sp, rfl, by omega, HW.out, HP.out⟩
        case round =>
          obtain ⟨k, S, rfl, hk, hwk, hpk⟩ := hrel
          by_cases hkn : k < N
          · obtain ⟨d, hd⟩ : ∃ d, N - k = d + 1 := ⟨N - k - 1, by omega⟩
            rw [hd] at hwk
            obtain ⟨S', h1, hc⟩ := wantW hpk hwk
            have hd2 : N - (k + 1) = d := by omega
            have HC2 := Lib.hid hc
            have H1 := Lib.hid h1
            clear hwk hpk h1 hc hd
            go_wp2_with fail
            refine HC2.out.mono ?_
            rintro e w4 ⟨rfl, hp4⟩
            have HP4 := Lib.hid hp4
            clear hp4
            go_wp2_with fail
            go_roundw
            case rel => exact ⟨k + 1, S', by go_num, by omega, by rw [hd2]; exact H1.out, HP4.out⟩
            case measure => simp [intOf]; omega
          · obtain rfl : k = N := by omega
            rw [Nat.sub_self] at hwk
            have HN := Lib.hid (wants_end hwk)
            have HP5 := Lib.hid hpk
            clear hwk hpk
            go_wp2_with fail
            go_loopw [19, 20, 21, 22, 23] (fun i _ _ _ _ w3 => ∃ (j : Nat) (S : Ev.St), i = .int .i64 j ∧ j ≤ 2 * k ∧ nextsOk k (2 * k - j) j S = true ∧ PulAt W0 S (.pointer (some gq)) w3) (fun i _ _ _ _ _ => 2 * k - (intOf i).toNat)
            case atStart => exact ⟨0, S, rfl, by omega, HN.out, HP5.out⟩
            case round =>
              obtain ⟨j, S2, rfl, hj, hwj, hpj⟩ := hrel
              by_cases hjn : j < 2 * k
              · obtain ⟨d, hd⟩ : ∃ d, 2 * k - j = d + 1 := ⟨2 * k - j - 1, by omega⟩
                rw [hd] at hwj
                obtain ⟨S', h1, hc⟩ := nextW hpj hwj
                have hd2 : 2 * k - (j + 1) = d := by omega
                have HC2 := Lib.hid hc
                have H1 := Lib.hid h1
                have z1 : (j : Int) < 2 * (k : Int) := by omega
                have z2 : ((k : Int) == 0) = false := by simp; omega
                have z3 : ¬ (k : Int) = 0 := by omega
                have z4 : (j : Int).tmod (k : Int) = ((j % k : Nat) : Int) := by rw [Int.tmod_eq_emod_of_nonneg (by omega)]; rfl
                have z5 : (j : Int).tdiv (k : Int) = ((j / k : Nat) : Int) := by rw [Int.tdiv_eq_ediv_of_nonneg (by omega)]; rfl
                have z6 : (j : Int) % (k : Int) = ((j % k : Nat) : Int) := rfl
                have z7 : (j : Int) / (k : Int) = ((j / k : Nat) : Int) := rfl
                have hjk : j / k ≤ j := Nat.div_le_self _ _
                have hjm : j % k ≤ j := Nat.mod_le _ _
                have z8 : IntKind.i64.wrap ((j / k : Nat) : Int) = ((j / k : Nat) : Int) := by generalize j / k = jd at *; rw [IntKind.wrap_i64]; omega
                have e1 : (((j % k : Nat) : Int) != ((j % k : Nat) : Int)) = false := by simp
                have e2 : (((1 + j / k : Nat) : Int) != 1 + ((j / k : Nat) : Int)) = false := by simp
                have e3 : ((1 + j / k : Nat) : Int) = 1 + ((j / k : Nat) : Int) := by omega
                clear hwj hpj h1 hc hd
                generalize hmm : j % k = jm at *
                generalize hdd : j / k = jd at *
                clear hmm hdd
                have e4 : ((1 : Int) + (jd : Int) != 1 + (jd : Int)) = false := by simp
                go_wp2_with fail
                refine HC2.out.mono ?_
                rintro e w4 ⟨rfl, hp4⟩
                have HP4 := Lib.hid hp4
                clear hp4
                rw [e3]
                go_wp2_with fail
                go_roundw
                case rel => exact ⟨j + 1, S', by go_num, by omega, by rw [hd2]; exact H1.out, HP4.out⟩
                case measure => simp [intOf]; omega
              · obtain rfl : j = 2 * k := by omega
                rw [Nat.sub_self] at hwj
                have hc := lenW hpj hwj
                have HC2 := Lib.hid hc
                clear hwj hpj hc
                go_wp2_with fail
                refine HC2.out.mono ?_
                rintro e w4 ⟨rfl, hb4⟩
                have M4 := Lib.hid (HMW.out.trans (Mod.ofBelow hb4) (fun _ _ e => e))
                have hc := awakeTop w4 (HE.out.pow.later M4.out)
                have HC3 := Lib.hid hc
                clear hb4 hc
                go_wp2_with fail
                refine HC3.out.mono ?_
                rintro e w5 ⟨rfl, m5⟩
                have M5 := Lib.hid (M4.out.trans m5 (fun _ _ e => e))
                clear m5
                go_wp2_with fail
                go_ret
                exact ⟨rfl, M5.out⟩
      · have z2' : ¬ (0 : Int) < (nl : Int) := by omega
        have hpw : Pow wr := HE.out.pow.later HMW.out
        obtain ⟨Sp, hw, hc⟩ := pulNewW wr (gl_of_pow hpw)
        have HW := Lib.hid (hw N (by omega) (by omega))
        have HC := Lib.hid hc
        clear hw hc hpw
        go_wp2_with fail
        refine HC.out.mono ?_
        rintro e w2 ⟨qv, rfl, ⟨gq, rfl⟩, hp⟩
        have HP := Lib.hid hp
        clear hp
        go_wp2_with fail
        generalize wr = W0 at *
        go_loopw [18] (fun p w3 => ∃ (k : Nat) (S : Ev.St), p = .int .i64 k ∧ k ≤ N ∧ wantsOk N (N - k) k S = true ∧ PulAt W0 S (.pointer (some gq)) w3) (fun p _ => N - (intOf p).toNat)
        case atStart => exact ⟨0, Sp, rfl, by omega, HW.out, HP.out⟩
        case round =>
          obtain ⟨k, S, rfl, hk, hwk, hpk⟩ := hrel
          by_cases hkn : k < N
          · obtain ⟨d, hd⟩ : ∃ d, N - k = d + 1 := ⟨N - k - 1, by omega⟩
            rw [hd] at hwk
            obtain ⟨S', h1, hc⟩ := wantW hpk hwk
            have hd2 : N - (k + 1) = d := by omega
            have HC2 := Lib.hid hc
            have H1 := Lib.hid h1
            clear hwk hpk h1 hc hd
            go_wp2_with fail
            refine HC2.out.mono ?_
            rintro e w4 ⟨rfl, hp4⟩
            have HP4 := Lib.hid hp4
            clear hp4
            go_wp2_with fail
            go_roundw
            case rel => exact ⟨k + 1, S', by go_num, by omega, by rw [hd2]; exact H1.out, HP4.out⟩
            case measure => simp [intOf]; omega
          · obtain rfl : k = N := by omega
            rw [Nat.sub_self] at hwk
            have HN := Lib.hid (wants_end hwk)
            have HP5 := Lib.hid hpk
            clear hwk hpk
            go_wp2_with fail
            go_loopw [19, 20, 21, 22, 23] (fun i _ _ _ _ w3 => ∃ (j : Nat) (S : Ev.St), i = .int .i64 j ∧ j ≤ 2 * k ∧ nextsOk k (2 * k - j) j S = true ∧ PulAt W0 S (.pointer (some gq)) w3) (fun i _ _ _ _ _ => 2 * k - (intOf i).toNat)
            case atStart => exact ⟨0, S, rfl, by omega, HN.out, HP5.out⟩
            case round =>
              obtain ⟨j, S2, rfl, hj, hwj, hpj⟩ := hrel
              by_cases hjn : j < 2 * k
              · obtain ⟨d, hd⟩ : ∃ d, 2 * k - j = d + 1 := ⟨2 * k - j - 1, by omega⟩
                rw [hd] at hwj
                obtain ⟨S', h1, hc⟩ := nextW hpj hwj
                have hd2 : 2 * k - (j + 1) = d := by omega
                have HC2 := Lib.hid hc
                have H1 := Lib.hid h1
                have z1 : (j : Int) < 2 * (k : Int) := by omega
                have z2 : ((k : Int) == 0) = false := by simp; omega
                have z3 : ¬ (k : Int) = 0 := by omega
                have z4 : (j : Int).tmod (k : Int) = ((j % k : Nat) : Int) := by rw [Int.tmod_eq_emod_of_nonneg (by omega)]; rfl
                have z5 : (j : Int).tdiv (k : Int) = ((j / k : Nat) : Int) := by rw [Int.tdiv_eq_ediv_of_nonneg (by omega)]; rfl
                have z6 : (j : Int) % (k : Int) = ((j % k : Nat) : Int) := rfl
                have z7 : (j : Int) / (k : Int) = ((j / k : Nat) : Int) := rfl
                have hjk : j / k ≤ j := Nat.div_le_self _ _
                have hjm : j % k ≤ j := Nat.mod_le _ _
                have z8 : IntKind.i64.wrap ((j / k : Nat) : Int) = ((j / k : Nat) : Int) := by generalize j / k = jd at *; rw [IntKind.wrap_i64]; omega
                have e1 : (((j % k : Nat) : Int) != ((j % k : Nat) : Int)) = false := by simp
                have e2 : (((1 + j / k : Nat) : Int) != 1 + ((j / k : Nat) : Int)) = false := by simp
                have e3 : ((1 + j / k : Nat) : Int) = 1 + ((j / k : Nat) : Int) := by omega
                clear hwj hpj h1 hc hd
                generalize hmm : j % k = jm at *
                generalize hdd : j / k = jd at *
                clear hmm hdd
                have e4 : ((1 : Int) + (jd : Int) != 1 + (jd : Int)) = false := by simp
                go_wp2_with fail
                refine HC2.out.mono ?_
                rintro e w4 ⟨rfl, hp4⟩
                have HP4 := Lib.hid hp4
                clear hp4
                rw [e3]
                go_wp2_with fail
                go_roundw
                case rel => exact ⟨j + 1, S', by go_num, by omega, by rw [hd2]; exact H1.out, HP4.out⟩
                case measure => simp [intOf]; omega
              · obtain rfl : j = 2 * k := by omega
                rw [Nat.sub_self] at hwj
                have hc := lenW hpj hwj
                have HC2 := Lib.hid hc
                clear hwj hpj hc
                go_wp2_with fail
                refine HC2.out.mono ?_
                rintro e w4 ⟨rfl, hb4⟩
                have M4 := Lib.hid (HMW.out.trans (Mod.ofBelow hb4) (fun _ _ e => e))
                have hc := awakeTop w4 (HE.out.pow.later M4.out)
                have HC3 := Lib.hid hc
                clear hb4 hc
                go_wp2_with fail
                refine HC3.out.mono ?_
                rintro e w5 ⟨rfl, m5⟩
                have M5 := Lib.hid (M4.out.trans m5 (fun _ _ e => e))
                clear m5
                go_wp2_with fail
                go_ret
                exact ⟨rfl, M5.out⟩
    · have z1' : ¬ (0 : Int) < (ns : Int) := by omega
      have hpw : Pow wr := HE.out.pow.later HMW.out
      obtain ⟨Sp, hw, hc⟩ := pulNewW wr (gl_of_pow hpw)
      have HW := Lib.hid (hw N (by omega) (by omega))
      have HC := Lib.hid hc
      clear hw hc hpw
      go_wp2_with fail
      refine HC.out.mono ?_
      rintro e w2 ⟨qv, rfl, ⟨gq, rfl⟩, hp⟩
      have HP := Lib.hid hp
      clear hp
      go_wp2_with fail
      generalize wr = W0 at *
      go_loopw [18] (fun p w3 => ∃ (k : Nat) (S : Ev.St), p = .int .i64 k ∧ k ≤ N ∧ wantsOk N (N - k) k S = true ∧ PulAt W0 S (.pointer (some gq)) w3) (fun p _ => N - (intOf p).toNat)
      case atStart => exact ⟨0, Sp, rfl, by omega, HW.out, HP.out⟩
      case round =>
        obtain ⟨k, S, rfl, hk, hwk, hpk⟩ := hrel
        by_cases hkn : k < N
        · obtain ⟨d, hd⟩ : ∃ d, N - k = d + 1 := ⟨N - k - 1, by omega⟩
          rw [hd] at hwk
          obtain ⟨S', h1, hc⟩ := wantW hpk hwk
          have hd2 : N - (k + 1) = d := by omega
          have HC2 := Lib.hid hc
          have H1 := Lib.hid h1
          clear hwk hpk h1 hc hd
          go_wp2_with fail
          refine HC2.out.mono ?_
          rintro e w4 ⟨rfl, hp4⟩
          have HP4 := Lib.hid hp4
          clear hp4
          go_wp2_with fail
          go_roundw
          case rel => exact ⟨k + 1, S', by go_num, by omega, by rw [hd2]; exact H1.out, HP4.out⟩
          case measure => simp [intOf]; omega
        · obtain rfl : k = N := by omega
          rw [Nat.sub_self] at hwk
          have HN := Lib.hid (wants_end hwk)
          have HP5 := Lib.hid hpk
          clear hwk hpk
          go_wp2_with fail
          go_loopw [19, 20, 21, 22, 23] (fun i _ _ _ _ w3 => ∃ (j : Nat) (S : Ev.St), i = .int .i64 j ∧ j ≤ 2 * k ∧ nextsOk k (2 * k - j) j S = true ∧ PulAt W0 S (.pointer (some gq)) w3) (fun i _ _ _ _ _ => 2 * k - (intOf i).toNat)
          case atStart => exact ⟨0, S, rfl, by omega, HN.out, HP5.out⟩
          case round =>
            obtain ⟨j, S2, rfl, hj, hwj, hpj⟩ := hrel
            by_cases hjn : j < 2 * k
            · obtain ⟨d, hd⟩ : ∃ d, 2 * k - j = d + 1 := ⟨2 * k - j - 1, by omega⟩
              rw [hd] at hwj
              obtain ⟨S', h1, hc⟩ := nextW hpj hwj
              have hd2 : 2 * k - (j + 1) = d := by omega
              have HC2 := Lib.hid hc
              have H1 := Lib.hid h1
              have z1 : (j : Int) < 2 * (k : Int) := by omega
              have z2 : ((k : Int) == 0) = false := by simp; omega
              have z3 : ¬ (k : Int) = 0 := by omega
              have z4 : (j : Int).tmod (k : Int) = ((j % k : Nat) : Int) := by rw [Int.tmod_eq_emod_of_nonneg (by omega)]; rfl
              have z5 : (j : Int).tdiv (k : Int) = ((j / k : Nat) : Int) := by rw [Int.tdiv_eq_ediv_of_nonneg (by omega)]; rfl
              have z6 : (j : Int) % (k : Int) = ((j % k : Nat) : Int) := rfl
              have z7 : (j : Int) / (k : Int) = ((j / k : Nat) : Int) := rfl
              have hjk : j / k ≤ j := Nat.div_le_self _ _
              have hjm : j % k ≤ j := Nat.mod_le _ _
              have z8 : IntKind.i64.wrap ((j / k : Nat) : Int) = ((j / k : Nat) : Int) := by generalize j / k = jd at *; rw [IntKind.wrap_i64]; omega
              have e1 : (((j % k : Nat) : Int) != ((j % k : Nat) : Int)) = false := by simp
              have e2 : (((1 + j / k : Nat) : Int) != 1 + ((j / k : Nat) : Int)) = false := by simp
              have e3 : ((1 + j / k : Nat) : Int) = 1 + ((j / k : Nat) : Int) := by omega
              clear hwj hpj h1 hc hd
              generalize hmm : j % k = jm at *
              generalize hdd : j / k = jd at *
              clear hmm hdd
              have e4 : ((1 : Int) + (jd : Int) != 1 + (jd : Int)) = false := by simp
              go_wp2_with fail
              refine HC2.out.mono ?_
              rintro e w4 ⟨rfl, hp4⟩
              have HP4 := Lib.hid hp4
              clear hp4
              rw [e3]
              go_wp2_with fail
              go_roundw
              case rel => exact ⟨j + 1, S', by go_num, by omega, by rw [hd2]; exact H1.out, HP4.out⟩
              case measure => simp [intOf]; omega
            · obtain rfl : j = 2 * k := by omega
              rw [Nat.sub_self] at hwj
              have hc := lenW hpj hwj
              have HC2 := Lib.hid hc
              clear hwj hpj hc
              go_wp2_with fail
              refine HC2.out.mono ?_
              rintro e w4 ⟨rfl, hb4⟩
              have M4 := Lib.hid (HMW.out.trans (Mod.ofBelow hb4) (fun _ _ e => e))
              have hc := awakeTop w4 (HE.out.pow.later M4.out)
              have HC3 := Lib.hid hc
              clear hb4 hc
              go_wp2_with fail
              refine HC3.out.mono ?_
              rintro e w5 ⟨rfl, m5⟩
              have M5 := Lib.hid (M4.out.trans m5 (fun _ _ e => e))
              clear m5
              go_wp2_with fail
              go_ret
              exact ⟨rfl, M5.out⟩
end Go.Proofs.YtigkndbkaagboaaGreatDoor
