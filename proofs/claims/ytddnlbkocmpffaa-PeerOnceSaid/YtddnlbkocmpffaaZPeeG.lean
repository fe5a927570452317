/- mizzenlaw20.PeerFull's walk. -/
import Derived.Test.YtddnlbkocmpffaaZPeeF
namespace Go.Proofs.Ytddnlbkocmpffaa
open Go.RowKit
set_option linter.unusedVariables false
set_option maxHeartbeats 4000000
set_option maxRecDepth 100000
theorem LawR.init {w w' : World} {rb : Nat} {R : RecA} (hr : RecO rb R w' (Ext NoB w w')) (m : Mod NoB w w') : LawR rb R w w' := LawR.new rb R w (Mod.refl _ _) hr m
theorem walk_peerFull (most : Int) (hm : (Lit.int .i64 most).wf = true) (extra : Int) (he : (Lit.int .i64 extra).wf = true) (w : World) :
    Calls Try.prog 3 #[.int .i64 most, .int .i64 extra] w fun e w' => e = .returned (.bool true) ∧ Below w.heap.size w w' := by
  clear hm he
  by_cases hout : most < 1 ∨ 30 < most ∨ extra < 1 ∨ 10 < extra
  · have hsp : most < 1 ∨ (¬ most < 1 ∧ 30 < most) ∨ (¬ most < 1 ∧ ¬ 30 < most ∧ extra < 1) ∨ (¬ most < 1 ∧ ¬ 30 < most ∧ ¬ extra < 1 ∧ 10 < extra) := by omega
    clear hout
    rcases hsp with h1 | ⟨h1, h2⟩ | ⟨h1, h2, h3⟩ | ⟨h1, h2, h3, h4⟩
    all_goals
      go_enter Try.func3, Try.ntmps3
      go_wp2_with fail
      refine (awakeW _).mono ?_
      rintro e w2 ⟨rfl, m2⟩
      have HM := Lib.hid m2
      clear m2
      go_wp2_with fail
      go_ret
      exact ⟨rfl, HM.out.below⟩
  · obtain ⟨M, rfl⟩ : ∃ M : Nat, most = M := ⟨most.toNat, by omega⟩
    obtain ⟨E, rfl⟩ : ∃ E : Nat, extra = E := ⟨extra.toNat, by omega⟩
    have b1 : ¬ (M : Int) < 1 := by omega
    have b2 : ¬ 30 < (M : Int) := by omega
    have b3 : ¬ (E : Int) < 1 := by omega
    have b4 : ¬ 10 < (E : Int) := by omega
    have b5 : 1 ≤ M := by omega
    have b6 : M ≤ 30 := by omega
    have b7 : E ≤ 10 := by omega
    clear hout
    go_enter Try.func3, Try.ntmps3
    go_wp2_with fail
    refine (newRecW (M : Int) 100 w (by omega)).mono ?_
    rintro e w2 ⟨rb, rfl, hr2, m2⟩
    have HR2 := Lib.hid (LawR.init hr2 m2)
    clear hr2 m2
    go_wp2_with fail
    go_loopw [7] (fun q wr => ∃ (k : Nat) (R : RecA), q = .int .i64 ((k + 1 : Nat) : Int) ∧ k ≤ M + E ∧ Hid (FillI M (min k M) R ∧ LawR rb R w wr)) (fun q _ => M + E + 1 - (intOf q).toNat)
    case atStart => exact ⟨0, _, rfl, by omega, Lib.hid ⟨by rw [Nat.zero_min]; exact FillI.init b5 b6, HR2.out⟩⟩
    case round =>
      obtain ⟨k, R, rfl, hk, hrel⟩ := hrel
      by_cases hkn : k < M + E
      · have hkz : ((k + 1 : Nat) : Int) ≤ (M : Int) + (E : Int) := by omega
        obtain ⟨j, hj⟩ : ∃ j, k + 1 = j := ⟨_, rfl⟩
        rw [hj] at hkz ⊢
        have hjb : j ≤ 40 := by omega
        have hj1 : 1 ≤ j := by omega
        have hb8 : IntKind.u8.wrap (j : Int) = (j : Int) := by rw [IntKind.wrap_u8]; omega
        have hb64 : IntKind.u64.wrap (j : Int) = (j : Int) := by rw [IntKind.wrap_u64]; omega
        have HJ := Lib.hid hj
        clear hj
        have hst : ∃ R' r1 r3, R.data 1 (j : Int) 2 0 [(j : Int)] = (R', r1, false, r3) ∧ FillI M (min j M) R' ∧ ((k < M ∧ r1 = 1 ∧ r3 = 0) ∨ (¬ k < M ∧ r1 = 0 ∧ r3 = 4)) := by
          have h1 := hrel.out.1
          by_cases hkM : k < M
          · rw [Nat.min_eq_left (by omega)] at h1
            obtain ⟨R', e1, e2⟩ := h1.step hkM b6
            rw [HJ.out] at e1 e2
            exact ⟨R', 1, 0, e1, by rw [Nat.min_eq_left (by have := HJ.out; omega)]; exact e2, .inl ⟨hkM, rfl, rfl⟩⟩
          · rw [Nat.min_eq_right (by omega)] at h1
            have := h1.full (j := j) (by have := HJ.out; omega) [(j : Int)]
            exact ⟨R, 0, 4, this, by rw [Nat.min_eq_right (by have := HJ.out; omega)]; exact h1, .inr ⟨hkM, rfl, rfl⟩⟩
        obtain ⟨R', r1, r3, hd, hf, hsp⟩ := hst
        have hcall := lawData hrel.out.2 hrel.out.1.ok 1 (by omega) (j : Int) (by omega) (by omega) 2 0 [(j : Int)] (0, 0) (by simp) (by omega) (fun x hx => by simp at hx; omega) (by rw [hrel.out.1.out]; simp)
        rw [hd] at hcall
        dsimp only at hcall
        have HC := Lib.hid (show Calls Try.prog 9 #[.pointer (some ⟨rb, 0, none⟩), .int .i64 1, .int .u64 j, .int .i64 2, .int .i64 0, .slice (some ⟨wr.heap.size, 0, none⟩) 1 1] (wr.alloc (.cells #[.int .u8 j] 5)) fun e w' => e = .returned (.tuple #[.int .i64 r1, .bool false, .int .i64 r3]) ∧ LawR rb R' w w' from hcall)
        have HF := Lib.hid hf
        clear hcall hd hf hrel
        rcases hsp with ⟨hkM, rfl, rfl⟩ | ⟨hkM, rfl, rfl⟩
        · have hjM : j ≤ M := by have := HJ.out; omega
          have hjz : (j : Int) ≤ (M : Int) := by omega
          have hjd : decide ((j : Int) ≤ (M : Int)) = true := decide_eq_true hjz
          go_wp2_with fail
          refine HC.out.mono ?_
          rintro e w3 ⟨rfl, h3⟩
          have H3 := Lib.hid h3
          clear h3
          go_wp2_with fail
          go_roundw
          case rel => exact ⟨k + 1, R', by rw [HJ.out]; go_num, by omega, Lib.hid ⟨by rw [HJ.out]; exact HF.out, H3.out⟩⟩
          case measure => have := HJ.out; simp [intOf]; omega
        · have hjM : ¬ j ≤ M := by have := HJ.out; omega
          have hjz : ¬ (j : Int) ≤ (M : Int) := by omega
          have hjd : decide ((j : Int) ≤ (M : Int)) = false := decide_eq_false hjz
          have hjn : decide (j ≤ M) = false := decide_eq_false hjM
          go_wp2_with fail
          refine HC.out.mono ?_
          rintro e w3 ⟨rfl, h3⟩
          have H3 := Lib.hid h3
          clear h3
          go_wp2_with fail
          go_roundw
          case rel => exact ⟨k + 1, R', by rw [HJ.out]; go_num, by omega, Lib.hid ⟨by rw [HJ.out]; exact HF.out, H3.out⟩⟩
          case measure => have := HJ.out; simp [intOf]; omega
      · obtain rfl : k = M + E := by omega
        have hkz : ¬ ((M + E + 1 : Nat) : Int) ≤ (M : Int) + (E : Int) := by omega
        have hf := hrel.out.1
        rw [Nat.min_eq_right (by omega)] at hf
        have HL := Lib.hid (lawLen hrel.out.2)
        have HN := Lib.hid hf.n
        rw [hf.n] at HL
        have HDR := Lib.hid hf.drain
        have HR := Lib.hid hrel.out.2
        have hMM : ((M : Int) == (M : Int)) = true := beq_self_eq_true _
        clear hf hrel
        go_wp2_with fail
        refine HL.out.mono ?_
        rintro e w3 ⟨rfl, rfl⟩
        go_wp2_with fail
        clear HL HN
        go_loopw [11] (fun q wr => ∃ (k : Nat) (R : RecA), q = .int .i64 ((k + 1 : Nat) : Int) ∧ k ≤ M ∧ Hid (DrainI M k R ∧ LawR rb R w wr)) (fun q _ => M + 1 - (intOf q).toNat)
        case atStart => exact ⟨0, R, rfl, by omega, Lib.hid ⟨HDR.out, HR.out⟩⟩
        case round =>
          clear HDR HR
          obtain ⟨k, R1, rfl, hk, hrel⟩ := hrel
          by_cases hkn : k < M
          · have hkz : ((k + 1 : Nat) : Int) ≤ (M : Int) := by omega
            obtain ⟨j, hj⟩ : ∃ j, k + 1 = j := ⟨_, rfl⟩
            rw [hj] at hkz ⊢
            have hjb : j ≤ 40 := by omega
            have hj1 : 1 ≤ j := by omega
            have hb8 : IntKind.u8.wrap (j : Int) = (j : Int) := by rw [IntKind.wrap_u8]; omega
            have hb64 : IntKind.u64.wrap (j : Int) = (j : Int) := by rw [IntKind.wrap_u64]; omega
            have HJ := Lib.hid hj
            obtain ⟨R', hd, hok', hout', hdr'⟩ := hrel.out.1.step hkn b6
            rw [hj] at hd hout' hdr'
            clear hj
            have hcall := lawData hrel.out.2 hrel.out.1.ok 1 (by omega) (j : Int) (by omega) (by omega) 2 1 [7] (0, 0) (by simp) (by omega) (fun x hx => by simp at hx; omega) (by rw [hrel.out.1.out]; simp)
            rw [hd] at hcall
            dsimp only at hcall
            have HC := Lib.hid (show Calls Try.prog 9 #[.pointer (some ⟨rb, 0, none⟩), .int .i64 1, .int .u64 j, .int .i64 2, .int .i64 1, .slice (some ⟨wr.heap.size, 0, none⟩) 1 1] (wr.alloc (.cells #[.int .u8 7] 5)) fun e w' => e = .returned (.tuple #[.int .i64 1, .bool true, .int .i64 0]) ∧ LawR rb R' w w' from hcall)
            have HO := Lib.hid hout'
            have HDR := Lib.hid hdr'
            clear hcall hd hout' hdr' hok' hrel
            go_wp2_with fail
            refine HC.out.mono ?_
            rintro e w3 ⟨rfl, h3⟩
            have HP := Lib.hid (lawPoll h3 1 (j : Int) [(j : Int), 7] [] HO.out (by rw [HO.out]; simp))
            clear h3
            go_wp2_with fail
            refine HP.out.mono ?_
            rintro e w4 ⟨A4, c4, rfl, ho4, h4⟩
            obtain ⟨s, hs⟩ : ∃ s, strOfNums [(j : Int), 7] = s := ⟨_, rfl⟩
            have ha4 := (Mod.refl NoB w4).alloc (.cells #[.int .i64 1, .int .u64 j, .slice A4 2 c4] 33)
            have hcv1 : (convert 30 9 (.slice A4 2 c4)).run Try.prog (w4.alloc (.cells #[.int .i64 1, .int .u64 j, .slice A4 2 c4] 33)) = .ok (.string s) (w4.alloc (.cells #[.int .i64 1, .int .u64 j, .slice A4 2 c4] 33)) := by
              rw [← hs]
              exact run_string_has Try.underlying30 Try.underlying5 Try.underlying9 (ho4.mod ha4 (fun _ _ e => e)).has
            have hcv2 : (convert 30 9 (.slice (some ⟨w4.heap.size + 1, 0, none⟩) 2 2)).run Try.prog ((w4.alloc (.cells #[.int .i64 1, .int .u64 j, .slice A4 2 c4] 33)).alloc (.cells #[.int .u8 j, .int .u8 7] 5)) = .ok (.string s) ((w4.alloc (.cells #[.int .i64 1, .int .u64 j, .slice A4 2 c4] 33)).alloc (.cells #[.int .u8 j, .int .u8 7] 5)) := by
              rw [← hs]
              have := lit_has (w4.alloc (.cells #[.int .i64 1, .int .u64 j, .slice A4 2 c4] 33)) [(j : Int), 7] (0, 0)
              have hz : (w4.alloc (.cells #[.int .i64 1, .int .u64 j, .slice A4 2 c4] 33)).heap.size = w4.heap.size + 1 := by simp
              rw [hz] at this
              exact run_string_has Try.underlying30 Try.underlying5 Try.underlying9 this
            have hss : (s.toList == s.toList) = true := beq_self_eq_true _
            have hjj : ((j : Int) == (j : Int)) = true := beq_self_eq_true _
            have H4 := Lib.hid h4
            have HA4 := Lib.hid (ha4.alloc (.cells #[.int .u8 j, .int .u8 7] 5))
            clear ha4 h4 ho4 hs
            go_wp2_with fail
            go_roundw
            case rel => exact ⟨k + 1, _, by rw [HJ.out]; go_num, by omega, Lib.hid ⟨by rw [HJ.out]; exact HDR.out, H4.out.later HA4.out⟩⟩
            case measure => have := HJ.out; simp [intOf]; omega
          · obtain rfl : k = M := by omega
            have hkz : ¬ ((k + 1 : Nat) : Int) ≤ (k : Int) := by omega
            obtain ⟨R', hd, hn', ho'⟩ := hrel.out.1.last b5 b6
            have hcall := lawData hrel.out.2 hrel.out.1.ok 1 (by omega) ((k + 1 : Nat) : Int) (by omega) (by omega) 1 0 [9] (0, 0) (by simp) (by omega) (fun x hx => by simp at hx; omega) (by rw [hrel.out.1.out]; simp)
            rw [hd] at hcall
            dsimp only at hcall
            have HC := Lib.hid (show Calls Try.prog 9 #[.pointer (some ⟨rb, 0, none⟩), .int .i64 1, .int .u64 ((k : Int) + 1), .int .i64 1, .int .i64 0, .slice (some ⟨wr.heap.size, 0, none⟩) 1 1] (wr.alloc (.cells #[.int .u8 9] 5)) fun e w' => e = .returned (.tuple #[.int .i64 1, .bool true, .int .i64 0]) ∧ LawR rb R' w w' from hcall)
            have HN := Lib.hid hn'
            have HO := Lib.hid ho'
            have hb64 : IntKind.u64.wrap (k : Int) = (k : Int) := by rw [IntKind.wrap_u64]; omega
            have hb65 : IntKind.u64.wrap ((k : Int) + 1) = (k : Int) + 1 := by rw [IntKind.wrap_u64]; omega
            clear hcall hd hn' ho' hrel
            go_wp2_with fail
            refine HC.out.mono ?_
            rintro e w3 ⟨rfl, h3⟩
            have HL := Lib.hid (lawLen h3)
            have HW := Lib.hid (lawWaiting h3)
            have HM := Lib.hid h3.mod
            rw [HN.out] at HL
            rw [HO.out] at HW
            clear h3
            go_wp2_with fail
            refine HL.out.mono ?_
            rintro e w4 ⟨rfl, rfl⟩
            go_wp2_with fail
            refine HW.out.mono ?_
            rintro e w4 ⟨rfl, rfl⟩
            go_wp2_with fail
            refine (awakeW _).mono ?_
            rintro e w4 ⟨rfl, m4⟩
            have HM4 := Lib.hid (HM.out.trans m4 (fun _ _ e => e))
            clear m4
            go_wp2_with fail
            go_ret
            exact ⟨rfl, HM4.out.below⟩
end Go.Proofs.Ytddnlbkocmpffaa
