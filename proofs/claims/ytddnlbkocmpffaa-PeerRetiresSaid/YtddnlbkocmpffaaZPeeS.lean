/- mizzenlaw20.PeerRetires's walk. -/
import Derived.Test.YtddnlbkocmpffaaZPeeR
import Derived.Test.YtddnlbkocmpffaaZPeeG
namespace Go.Proofs.Ytddnlbkocmpffaa
open Go.RowKit
set_option linter.unusedVariables false
set_option maxHeartbeats 4000000
set_option maxRecDepth 100000
theorem walk_peerRetires (n : Int) (hn : (Lit.int .i64 n).wf = true) (below : Int) (hb : (Lit.int .u64 below).wf = true) (w : World) :
    Calls Try.prog 6 #[.int .i64 n, .int .u64 below] w fun e w' => e = .returned (.bool true) ∧ Below w.heap.size w w' := by
  have hb0 := (bounds_u64 hb).1
  clear hn hb
  by_cases hout : n < 1 ∨ 20 < n
  · have hsp : n < 1 ∨ (¬ n < 1 ∧ 20 < n) := by omega
    clear hout
    rcases hsp with h1 | ⟨h1, h2⟩
    all_goals
      go_enter Try.func6, Try.ntmps6
      go_wp2_with fail
      refine (awakeW _).mono ?_
      rintro e w2 ⟨rfl, m2⟩
      have HM := Lib.hid m2
      clear m2
      go_wp2_with fail
      go_ret
      exact ⟨rfl, HM.out.below⟩
  · obtain ⟨N, rfl⟩ : ∃ N : Nat, n = N := ⟨n.toNat, by omega⟩
    have b1 : ¬ (N : Int) < 1 := by omega
    have b2 : ¬ 20 < (N : Int) := by omega
    have b3 : 1 ≤ N := by omega
    have b4 : N ≤ 20 := by omega
    clear hout
    go_enter Try.func6, Try.ntmps6
    go_wp2_with fail
    refine (newRecW 50 100 w (by omega)).mono ?_
    rintro e w2 ⟨rb, rfl, hr2, m2⟩
    have HR2 := Lib.hid (LawR.init hr2 m2)
    clear hr2 m2
    go_wp2_with fail
    go_loopw [7] (fun q wr => ∃ (k : Nat) (R : RecA), q = .int .i64 ((k + 1 : Nat) : Int) ∧ k ≤ N ∧ Hid (TwoI k k R ∧ LawR rb R w wr)) (fun q _ => N + 1 - (intOf q).toNat)
    case atStart => exact ⟨0, _, rfl, by omega, Lib.hid ⟨TwoI.init, HR2.out⟩⟩
    case round =>
      clear HR2
      obtain ⟨k, R, rfl, hk, hrel⟩ := hrel
      by_cases hkn : k < N
      · have hkz : ((k + 1 : Nat) : Int) ≤ (N : Int) := by omega
        obtain ⟨R1, hd1, hf1⟩ := hrel.out.1.step1 (by omega) (by omega)
        obtain ⟨R2, hd2, hf2⟩ := hf1.step2 (by omega) (by omega)
        obtain ⟨j, hj⟩ : ∃ j, k + 1 = j := ⟨_, rfl⟩
        have hcall := lawData hrel.out.2 hrel.out.1.ok 1 (by omega) ((k + 1 : Nat) : Int) (by omega) (by omega) 2 0 [1] (0, 0) (by simp) (by omega) (fun x hx => by simp at hx; omega) (by rw [hrel.out.1.out]; simp)
        rw [hd1, hj] at hcall
        dsimp only at hcall
        have HC := Lib.hid (show Calls Try.prog 9 #[.pointer (some ⟨rb, 0, none⟩), .int .i64 1, .int .u64 j, .int .i64 2, .int .i64 0, .slice (some ⟨wr.heap.size, 0, none⟩) 1 1] (wr.alloc (.cells #[.int .u8 1] 5)) fun e w' => e = .returned (.tuple #[.int .i64 1, .bool false, .int .i64 0]) ∧ LawR rb R1 w w' from hcall)
        have HC2 := Lib.hid (fun w3 (h3 : LawR rb R1 w w3) => show Calls Try.prog 9 #[.pointer (some ⟨rb, 0, none⟩), .int .i64 2, .int .u64 j, .int .i64 2, .int .i64 0, .slice (some ⟨w3.heap.size, 0, none⟩) 1 1] (w3.alloc (.cells #[.int .u8 1] 5)) fun e w' => e = .returned (.tuple #[.int .i64 1, .bool false, .int .i64 0]) ∧ LawR rb R2 w w' from by
          have := lawData h3 hf1.ok 2 (by omega) ((k + 1 : Nat) : Int) (by omega) (by omega) 2 0 [1] (0, 0) (by simp) (by omega) (fun x hx => by simp at hx; omega) (by rw [hf1.out]; simp)
          rw [hd2, hj] at this
          exact this)
        rw [hj] at hkz ⊢
        have hb64 : IntKind.u64.wrap (j : Int) = (j : Int) := by rw [IntKind.wrap_u64]; omega
        have HJ := Lib.hid hj
        have HF := Lib.hid hf2
        clear hcall hd1 hd2 hf1 hf2 hj hrel
        go_wp2_with fail
        refine HC.out.mono ?_
        rintro e w3 ⟨rfl, h3⟩
        have HC3 := Lib.hid (HC2.out w3 h3)
        clear h3
        go_wp2_with fail
        refine HC3.out.mono ?_
        rintro e w4 ⟨rfl, h4⟩
        have H4 := Lib.hid h4
        clear h4
        go_wp2_with fail
        go_roundw
        case rel => exact ⟨k + 1, R2, by rw [HJ.out]; go_num, by omega, Lib.hid ⟨HF.out, H4.out⟩⟩
        case measure => have := HJ.out; simp [intOf]; omega
      · obtain rfl : k = N := by omega
        have hkz : ¬ ((k + 1 : Nat) : Int) ≤ (k : Int) := by omega
        have HREL := Lib.hid hrel.out
        clear hrel
        go_wp2_with fail
        go_loop [9, 8] (fun q c => ∃ (j cn : Nat), q = .int .i64 ((j + 1 : Nat) : Int) ∧ j ≤ k ∧ c = .int .i64 cn ∧ cn ≤ j ∧ Hid (cn = lessN below j)) (fun q _ => k + 1 - (intOf q).toNat)
        case atStart => exact ⟨0, 0, rfl, by omega, rfl, by omega, Lib.hid rfl⟩
        case round =>
          obtain ⟨j, cn, rfl, hj, rfl, hcj, hcn⟩ := hrel
          by_cases hjk : j < k
          · obtain ⟨i, hi⟩ : ∃ i, j + 1 = i := ⟨_, rfl⟩
            have hiz : ((i : Nat) : Int) ≤ (k : Int) := by omega
            have hls : lessN below i = lessN below j + if ((i : Nat) : Int) < below then 1 else 0 := by rw [← hi]; rfl
            rw [hi]
            have hb64 : IntKind.u64.wrap (i : Int) = (i : Int) := by rw [IntKind.wrap_u64]; omega
            have HI := Lib.hid hi
            have HLS := Lib.hid hls
            clear hi hls
            by_cases hib : (i : Int) < below
            · have HIB := Lib.hid hib
              go_wp2_with fail
              go_round
              case rel => exact ⟨j + 1, cn + 1, by rw [HI.out]; go_num, by omega, by go_num, by omega, Lib.hid (by rw [HI.out, HLS.out, if_pos HIB.out, hcn.out])⟩
              case measure => have := HI.out; simp [intOf]; omega
            · have HIB := Lib.hid hib
              go_wp2_with fail
              go_round
              case rel => exact ⟨j + 1, cn, by rw [HI.out]; go_num, by omega, rfl, by omega, Lib.hid (by rw [HI.out, HLS.out, if_neg (Int.not_lt.2 (by have := HIB.out; omega)), hcn.out]; rfl)⟩
              case measure => have := HI.out; simp [intOf]; omega
          · obtain rfl : j = k := by omega
            have hjz : ¬ ((j + 1 : Nat) : Int) ≤ (j : Int) := by omega
            have hks := twoKeys_of HREL.out.1
            have hret := lawRetire HREL.out.2 HREL.out.1.ok 1 (by omega) below hb0 _ hks
            have hrok := HREL.out.1.ok.retire (i := 1) (by omega) below hks
            rw [twoKeys_gone] at hret hrok
            have hri := HREL.out.1.retire b4 below hb0 hrok
            have hL : lessN below j ≤ j := by rw [lessN_eq below hb0]; omega
            have hmm : ∀ i : Nat, 1 ≤ i → i ≤ j → ((i : Int) < max 1 (min below 1152921504606846977) ↔ i ≤ lessN below j) := fun i h1 h2 => by
              rw [lessN_eq below hb0]; omega
            have hlb : ∀ i : Nat, 1 ≤ i → i ≤ j → ((i : Int) < below ↔ i ≤ lessN below j) := fun i h1 h2 => by
              rw [lessN_eq below hb0]; omega
            rw [← hcn.out] at hret hri hL hmm hlb
            have HLEN := Lib.hid (show Calls Try.prog 10 #[.pointer (some ⟨rb, 0, none⟩)] wr fun e w' => e = .returned (.int .i64 (2 * (j : Int))) ∧ wr = w' from by
              have := lawLen HREL.out.2
              rw [HREL.out.1.n, show ((j + j : Nat) : Int) = 2 * (j : Int) by omega] at this
              exact this)
            have HRET := Lib.hid hret
            have HRI := Lib.hid hri
            have HMM := Lib.hid hmm
            have HLB := Lib.hid hlb
            clear hks hret hrok hri hmm hlb hcn HREL
            obtain ⟨R2, hR2⟩ : ∃ R2, R.retire 1 below cn = R2 := ⟨_, rfl⟩
            rw [hR2] at HRET HRI
            clear hR2
            go_wp2_with fail
            refine HLEN.out.mono ?_
            rintro e w3 ⟨rfl, rfl⟩
            go_wp2_with fail
            refine HRET.out.mono ?_
            rintro e w4 ⟨rfl, h4⟩
            have HL4 := Lib.hid (show Calls Try.prog 10 #[.pointer (some ⟨rb, 0, none⟩)] w4 fun e w' => e = .returned (.int .i64 (2 * (j : Int) - (cn : Int))) ∧ w4 = w' from by
              have := lawLen h4
              rw [HRI.out.n_, show ((j - 0 + (j - max 0 cn) : Nat) : Int) = 2 * (j : Int) - (cn : Int) by omega] at this
              exact this)
            have H4 := Lib.hid h4
            clear h4
            go_wp2_with fail
            refine HL4.out.mono ?_
            rintro e w5 ⟨rfl, rfl⟩
            go_wp2_with fail
            clear HL4 HLEN HRET
            go_loopw [10] (fun q wr => ∃ (k : Nat) (R : RecA), q = .int .i64 ((k + 1 : Nat) : Int) ∧ k ≤ j ∧ Hid (RestI j cn (max 1 (min below 1152921504606846977)) k R ∧ LawR rb R w wr)) (fun q _ => j + 1 - (intOf q).toNat)
            case atStart => exact ⟨0, _, rfl, by omega, Lib.hid ⟨HRI.out, H4.out⟩⟩
            case round =>
              clear HRI H4
              obtain ⟨k, R, rfl, hk, hrel⟩ := hrel
              by_cases hkn : k < j
              · have hkz : ((k + 1 : Nat) : Int) ≤ (j : Int) := by omega
                obtain ⟨R1, R2, r, hd1, hok1, hou1, hr, hd2, hf2⟩ := hrel.out.1.step hkn b4 hL HMM.out
                have hlt := HLB.out (k + 1) (by omega) (by omega)
                obtain ⟨i, hi⟩ : ∃ i, k + 1 = i := ⟨_, rfl⟩
                have hcall := lawData hrel.out.2 hrel.out.1.ok 1 (by omega) ((k + 1 : Nat) : Int) (by omega) (by omega) 2 1 [2] (0, 0) (by simp) (by omega) (fun x hx => by simp at hx; omega) (by rw [hrel.out.1.out]; omega)
                rw [hd1, hi] at hcall
                dsimp only at hcall
                have HC := Lib.hid (show Calls Try.prog 9 #[.pointer (some ⟨rb, 0, none⟩), .int .i64 1, .int .u64 i, .int .i64 2, .int .i64 1, .slice (some ⟨wr.heap.size, 0, none⟩) 1 1] (wr.alloc (.cells #[.int .u8 2] 5)) fun e w' => e = .returned (.tuple #[.int .i64 r, .bool true, .int .i64 0]) ∧ LawR rb R1 w w' from hcall)
                have HC2 := Lib.hid (fun w3 (h3 : LawR rb R1 w w3) => show Calls Try.prog 9 #[.pointer (some ⟨rb, 0, none⟩), .int .i64 2, .int .u64 i, .int .i64 2, .int .i64 1, .slice (some ⟨w3.heap.size, 0, none⟩) 1 1] (w3.alloc (.cells #[.int .u8 2] 5)) fun e w' => e = .returned (.tuple #[.int .i64 1, .bool true, .int .i64 0]) ∧ LawR rb R2 w w' from by
                  have := lawData h3 hok1 2 (by omega) ((k + 1 : Nat) : Int) (by omega) (by omega) 2 1 [2] (0, 0) (by simp) (by omega) (fun x hx => by simp at hx; omega) hou1
                  rw [hd2, hi] at this
                  exact this)
                rw [hi] at hkz hlt hr ⊢
                have hb64 : IntKind.u64.wrap (i : Int) = (i : Int) := by rw [IntKind.wrap_u64]; omega
                have HI := Lib.hid hi
                have HF := Lib.hid hf2
                clear hcall hd1 hd2 hok1 hou1 hf2 hi hrel
                have hsp : ((i : Int) < below ∧ decide ((i : Int) < below) = true ∧ r = 0) ∨ (¬ (i : Int) < below ∧ decide ((i : Int) < below) = false ∧ r = 1) := by
                  rcases hr with ⟨h1, h2⟩ | ⟨h1, h2⟩
                  · have h3 := hlt.2 h1
                    exact .inl ⟨h3, decide_eq_true h3, h2⟩
                  · have h3 : ¬ (i : Int) < below := fun e => h1 (hlt.1 e)
                    exact .inr ⟨h3, decide_eq_false h3, h2⟩
                clear hlt hr
                rcases hsp with ⟨hib, hid, rfl⟩ | ⟨hib, hid, rfl⟩
                all_goals
                  go_wp2_with fail
                  refine HC.out.mono ?_
                  rintro e w3 ⟨rfl, h3⟩
                  have HC3 := Lib.hid (HC2.out w3 h3)
                  clear h3
                  go_wp2_with fail
                  refine HC3.out.mono ?_
                  rintro e w4 ⟨rfl, h4⟩
                  have H4 := Lib.hid h4
                  clear h4
                  go_wp2_with fail
                  go_roundw
                  case rel => exact ⟨k + 1, R2, by rw [HI.out]; go_num, by omega, Lib.hid ⟨HF.out, H4.out⟩⟩
                  case measure => have := HI.out; simp [intOf]; omega
              · obtain rfl : k = j := by omega
                have hkz : ¬ ((k + 1 : Nat) : Int) ≤ (k : Int) := by omega
                have HW := Lib.hid (show Calls Try.prog 12 #[.pointer (some ⟨rb, 0, none⟩)] wr fun e w' => e = .returned (.int .i64 (2 * (k : Int) - (cn : Int))) ∧ wr = w' from by
                  have := lawWaiting hrel.out.2
                  rw [hrel.out.1.out, show ((k + (max k cn - cn) : Nat) : Int) = 2 * (k : Int) - (cn : Int) by omega] at this
                  exact this)
                have HN := Lib.hid (show Calls Try.prog 10 #[.pointer (some ⟨rb, 0, none⟩)] wr fun e w' => e = .returned (.int .i64 0) ∧ wr = w' from by
                  have := lawLen hrel.out.2
                  rw [hrel.out.1.n_, show ((k - k + (k - max k cn) : Nat) : Int) = 0 by omega] at this
                  exact this)
                have HM := Lib.hid hrel.out.2.mod
                clear hrel HLB HMM
                go_wp2_with fail
                refine HW.out.mono ?_
                rintro e w4 ⟨rfl, rfl⟩
                go_wp2_with fail
                refine HN.out.mono ?_
                rintro e w4 ⟨rfl, rfl⟩
                go_wp2_with fail
                refine (awakeW _).mono ?_
                rintro e w4 ⟨rfl, m4⟩
                have HM4 := Lib.hid (HM.out.trans m4 (fun _ _ e => e))
                clear m4
                go_wp2_with fail
                go_ret
                exact ⟨rfl, HM4.out.below⟩
end Go.Proofs.Ytddnlbkocmpffaa
