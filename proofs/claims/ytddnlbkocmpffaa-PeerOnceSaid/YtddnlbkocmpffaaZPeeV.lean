/- mizzenlaw20.PeerOnce's walk: no texts at all. -/
import Derived.Test.YtddnlbkocmpffaaZPeeW
namespace Go.Proofs.Ytddnlbkocmpffaa
open Go.RowKit
set_option linter.unusedVariables false
set_option maxHeartbeats 4000000
set_option maxRecDepth 100000
theorem walk_peerOnceZ (w : World) {tv : Value} (T : List (List Int)) (ht : HasT w w.heap.size tv T ∧ (∀ t ∈ T, Byt t) ∧ (∀ t ∈ T, t.length ≤ 9223372036854775807) ∧ T.length ≤ 9223372036854775807) (hpos : T.length = 0) (size : Int) (hs : (Lit.int .i64 size).wf = true) {ov : Value} (os : List Int) (ho : Has w w.heap.size 1 (encN .i64) ov os ∧ (∀ z ∈ os, (Lit.int .i64 z).wf = true) ∧ os.length ≤ 9223372036854775807) (below : Int) (hb : (Lit.int .u64 below).wf = true) :
    Calls Try.prog 5 #[tv, .int .i64 size, ov, .int .u64 below] w fun e w' => e = .returned (.bool true) ∧ Below w.heap.size w w' := by
  have hb0 := (bounds_u64 hb).1
  obtain ⟨hT, hTb, hTl, hTm⟩ := ht
  obtain ⟨hO, hOw, hOm⟩ := ho
  obtain ⟨At, ct, rfl, hct⟩ := hT.form
  obtain ⟨Ao, co, rfl, hco⟩ := hO.form
  obtain ⟨m, hm⟩ : ∃ m, T.length = m := ⟨_, rfl⟩
  obtain ⟨N, hN⟩ : ∃ N, os.length = N := ⟨_, rfl⟩
  rw [hm] at hT hct hTm hpos ⊢
  have HPOS := Lib.hid hpos
  clear hpos
  rw [hN] at hO hco hOm ⊢
  have HT := Lib.hid hT
  have HO := Lib.hid hO
  have HTB := Lib.hid hTb
  have HTL := Lib.hid hTl
  have HOW := Lib.hid hOw
  have HM := Lib.hid hm
  have HN := Lib.hid hN
  clear hT hO hTb hTl hOw hm hN hs hb
  go_enter Try.func5, Try.ntmps5
  go_wp2_with fail
  go_loopw [9, 10] (fun q i wr => ∃ (n : Int) (k : Nat), q = .int .i64 n ∧ i = .int .i64 k ∧ k ≤ m ∧ 0 ≤ n ∧ n ≤ 1099511627776 ∧ Hid ((n = sumT (T.take k) ∨ n = 1099511627776) ∧ Mod NoB w wr)) (fun _ i _ => m - (intOf i).toNat)
  case atStart => exact ⟨0, 0, rfl, rfl, Nat.zero_le _, Int.le_refl _, by omega, Lib.hid ⟨.inl rfl, Mod.refl _ _⟩⟩
  case round =>
    obtain ⟨n, k, rfl, rfl, hk, hn0, hn1, hrel⟩ := hrel
    by_cases hkm : k < m
    · have hkz : (k : Int) < (m : Int) := by omega
      have hkz0 : (0 : Int) ≤ (k : Int) := by omega
      have hkd : decide ((k : Int) < (m : Int)) = true := by simpa using hkz
      have hkx : k < T.length := by rw [HM.out]; exact hkm
      have hx? := List.getElem?_eq_getElem hkx
      obtain ⟨g, off, Ar, cr, rfl, hg, hc, -⟩ := (HT.out.later hrel.out.2 (Nat.le_refl _)).at_ hx?
      have hsn := sumT_snoc (T.take k) (T[k]'hkx)
      rw [← List.take_succ_eq_append_getElem hkx] at hsn
      have hlb := HTL.out _ (List.getElem_mem hkx)
      generalize T[k]'hkx = t at *
      obtain ⟨l, hl⟩ : ∃ l, t.length = l := ⟨_, rfl⟩
      rw [hl] at hc hsn hlb
      have ha := hrel.out.2.alloc (.cells #[.int .i64 l, .int .i64 1] 3)
      have HS := Lib.hid (sumG n l wr.heap.size (wr.alloc (.cells #[.int .i64 l, .int .i64 1] 3)) ((Blk.new wr 3 #[.int .i64 l, .int .i64 1]).cell 0) ((Blk.new wr 3 #[.int .i64 l, .int .i64 1]).cell 1) hn0 hn1 (by omega) (by omega))
      have HA := Lib.hid ha
      have HSN := Lib.hid hsn
      clear ha hsn hl hx? hkx
      go_wp2_with fail
      refine HS.out.mono ?_
      rintro e w3 ⟨⟨r, rfl, hr⟩, rfl⟩
      have hr0 : 0 ≤ r ∧ r ≤ 1099511627776 := by omega
      have HR := Lib.hid hr
      clear hr
      go_wp2_with fail
      go_roundw
      case rel => exact ⟨r, k + 1, rfl, by go_num, by omega, hr0.1, hr0.2, Lib.hid ⟨by
        rw [HSN.out]
        rcases HR.out with ⟨h1, h2⟩ | h1
        · rcases hrel.out.1 with h3 | h3
          · exact .inl (by omega)
          · exact .inr (by omega)
        · exact .inr h1, HA.out⟩⟩
      case measure => simp [intOf]; omega
    · obtain rfl : k = m := by omega
      have hkz : ¬ (k : Int) < (k : Int) := by omega
      have hkd : decide ((k : Int) < (k : Int)) = false := by simp
      have htk : T.take k = T := by rw [← HM.out]; exact List.take_length
      rw [htk] at hrel
      clear htk
      by_cases hout : 500 < n ∨ 8 < k ∨ size < 1 ∨ 500 < size ∨ 100 < N
      · have hsp : 500 < n ∨ (¬ 500 < n ∧ 8 < (k : Int)) ∨ (¬ 500 < n ∧ ¬ 8 < (k : Int) ∧ size < 1) ∨ (¬ 500 < n ∧ ¬ 8 < (k : Int) ∧ ¬ size < 1 ∧ 500 < size) ∨ (¬ 500 < n ∧ ¬ 8 < (k : Int) ∧ ¬ size < 1 ∧ ¬ 500 < size ∧ 100 < (N : Int)) := by omega
        clear hout
        have HW := Lib.hid hrel.out.2
        clear hrel
        rcases hsp with h1 | ⟨h1, h2⟩ | ⟨h1, h2, h3⟩ | ⟨h1, h2, h3, h4⟩ | ⟨h1, h2, h3, h4, h5⟩
        all_goals
          go_wp2_with fail
          refine (awakeW _).mono ?_
          rintro e w3 ⟨rfl, m3⟩
          have HM3 := Lib.hid (HW.out.trans m3 (fun _ _ e => e))
          clear m3
          go_wp2_with fail
          go_ret
          exact ⟨rfl, HM3.out.below⟩
      · obtain ⟨S, rfl⟩ : ∃ S : Nat, size = S := ⟨size.toNat, by omega⟩
        have b1 : ¬ 500 < n := by omega
        have b2 : ¬ 8 < (k : Int) := by omega
        have b3 : ¬ (S : Int) < 1 := by omega
        have b4 : ¬ 500 < (S : Int) := by omega
        have b5 : ¬ 100 < (N : Int) := by omega
        have b6 : k ≤ 8 := by omega
        have b7 : 1 ≤ S := by omega
        have b8 : S ≤ 500 := by omega
        have b9 : N ≤ 100 := by omega
        have b10 : ((S : Int) == 0) = false := by rw [beq_eq_false_iff_ne]; omega
        have b11 : ((S : Int) == -1) = false := by rw [beq_eq_false_iff_ne]; omega
        have b12 : ¬ (S : Int) = 0 := by omega
        have b13 : ¬ S = 0 := by omega
        have hsum : n = sumT T := hrel.out.1.resolve_right (by omega)
        have HL5 := Lib.hid (show ∀ t ∈ T, t.length ≤ 500 from fun t ht => by have := sumT_mem ht; omega)
        have HW := Lib.hid hrel.out.2
        clear hout hrel hsum
        go_wp2_with fail
        refine (newRecW 20 1000 wr (by omega)).mono ?_
        rintro e w2 ⟨rb, rfl, hr2, m2⟩
        have HR2 := Lib.hid (LawR.new rb (newRec 20 1000) wr HW.out hr2 m2)
        have HM2 := Lib.hid (HW.out.trans m2 (fun _ _ e => e))
        have hmk := make_ints k (by omega)
        clear hr2 m2
        go_wp2_with fail
        have hgb := Blk.new w2 3 (gotCells k (fun _ => false))
        have HI := Lib.hid (show OnceI T (newRec 20 1000) (fun _ => false) ∧ (newRec 20 1000).out = [] ∧ SweptI T S N 0 (newRec 20 1000) ∧ LawG w2.heap.size rb (newRec 20 1000) w (w2.alloc (.cells (gotCells k (fun _ => false)) 3)) ∧ Blk (w2.alloc (.cells (gotCells k (fun _ => false)) 3)) w2.heap.size 3 (gotCells k (fun _ => false)) from
          ⟨⟨newRec_ok (by omega), rfl, rfl, fun x hx => (by cases hx), fun r hr => (by cases hr), fun j u hj => .none ((newRec_ok (by omega)).winNo (i := 2) rfl (by omega)) rfl⟩, rfl, SweptI.early _ (Nat.zero_le _), LawG.ofR HR2.out ((Mod.refl NoB w2).alloc _) (Nat.le_refl _) hgb.lt, hgb⟩)
        have HGB := Lib.hid (show w.heap.size ≤ w2.heap.size from HM2.out.size)
        obtain ⟨gb, hgbe⟩ : ∃ gb, w2.heap.size = gb := ⟨_, rfl⟩
        rw [hgbe] at HI HGB ⊢
        clear hgb hgbe HR2 HM2 hmk
        go_loopw [14] (fun q wr => ∃ (i : Nat) (R : RecA) (dn : Nat → Bool), q = .int .i64 i ∧ i = 0 ∧ Hid (OnceI T R dn ∧ R.out = [] ∧ SweptI T S N i R ∧ LawG gb rb R w wr ∧ Blk wr gb 3 (gotCells k dn))) (fun q _ => N + 600 - (intOf q).toNat)
        case atStart => exact ⟨0, _, _, rfl, rfl, HI⟩
        case round =>
          clear HI HW
          obtain ⟨i, R, dn, rfl, hi, hrel⟩ := hrel
          subst hi
          have HA := Lib.hid (show ∀ (j : Nat) (t : List Int), T[j]? = some t → t.length / S < 600 / k → dn j = true from fun j t hj hlt => by
            have hjT := (List.getElem?_eq_some_iff.1 hj).1
            rw [HM.out] at hjT
            have := HPOS.out
            omega)
          have HON := Lib.hid hrel.out.1
          have HOUT := Lib.hid hrel.out.2.1
          have HLW := Lib.hid hrel.out.2.2.2.1
          have HGW := Lib.hid hrel.out.2.2.2.2
          have hx1 : (0 : Int) < (N : Int) + 600 := by omega
          have hx2 : ¬ (0 < (k : Int)) := by have := HPOS.out; omega
          clear hrel
          have hx1d : decide ((0 : Int) < (N : Int) + 600) = true := decide_eq_true hx1
          have hx2d : decide (0 < (k : Int)) = false := decide_eq_false hx2
          go_wp2_with fail
          clear hx1 hx1d
          go_loopw [22] (fun q wx => ∃ j : Nat, q = .int .i64 j ∧ j ≤ k ∧ Hid (Mod NoB wr wx)) (fun q _ => k - (intOf q).toNat)
          case atStart => exact ⟨0, rfl, Nat.zero_le _, Lib.hid (Mod.refl _ _)⟩
          case round =>
            obtain ⟨j, rfl, hj, hwx⟩ := hrel
            by_cases hjk : j < k
            · exfalso; omega
            · have hjz : ¬ (j : Int) < (k : Int) := by omega
              have hjd : decide ((j : Int) < (k : Int)) = false := decide_eq_false hjz
              have HLX := Lib.hid (HLW.out.later hwx.out)
              have HGX := Lib.hid (HGW.out.mod hwx.out (fun e => e))
              obtain ⟨ks, hks⟩ := HON.out.ok.keys
              have HRET := Lib.hid (lawRetireG HLX.out HON.out.ok 2 (by omega) below hb0 ks hks)
              have HLAST := Lib.hid (HON.out.last HOUT.out (fun j t hj h0 => HA.out j t hj (by
                have := (List.getElem?_eq_some_iff.1 hj).1
                rw [HM.out] at this
                rw [h0, Nat.zero_div]
                exact Nat.div_pos (by omega) (by omega))) below hb0 hks)
              generalize R.retire 2 below (ks.countP (goneK 2 below)) = R3 at *
              clear hks hwx HLX HLW HGW HON HOUT HA
              go_wp2_with fail
              refine HRET.out.mono ?_
              rintro e w3 ⟨⟨n3, rfl⟩, h3, m3⟩
              have HI := Lib.hid (show LastI T R3 dn ∧ LawG gb rb R3 w w3 ∧ Blk w3 gb 3 (gotCells k dn) from ⟨HLAST.out, h3, HGX.out.mod m3 (fun e => e rfl)⟩)
              clear h3 m3 HRET HLAST HGX
              go_wp2_with fail
              go_loopw [23] (fun q wx => ∃ (j : Nat) (R : RecA), q = .int .i64 j ∧ j ≤ k ∧ Hid (LastI T R dn ∧ LawG gb rb R w wx ∧ Blk wx gb 3 (gotCells k dn))) (fun q _ => k - (intOf q).toNat)
              case atStart => exact ⟨0, _, rfl, Nat.zero_le _, HI⟩
              case round =>
                clear HI
                obtain ⟨j, R4, rfl, hj, hrel⟩ := hrel
                by_cases hjk : j < k
                · exfalso; omega
                · have hjz : ¬ (j : Int) < (k : Int) := by omega
                  have hjd : decide ((j : Int) < (k : Int)) = false := decide_eq_false hjz
                  have HPN := Lib.hid (lawPollNoG hrel.out.2.1 hrel.out.1.out)
                  clear hrel
                  go_wp2_with fail
                  refine HPN.out.mono ?_
                  rintro e w5 ⟨rfl, h5, m5⟩
                  have H5 := Lib.hid h5
                  clear h5 m5
                  go_wp2_with fail
                  refine (awakeW _).mono ?_
                  rintro e w6 ⟨rfl, m6⟩
                  have HM6 := Lib.hid ((H5.out.mod.alloc _).trans m6 (fun _ _ e => e))
                  clear m6
                  go_wp2_with fail
                  go_ret
                  exact ⟨rfl, HM6.out.below⟩
theorem walk_peerOnce (w : World) {tv : Value} (T : List (List Int)) (ht : HasT w w.heap.size tv T ∧ (∀ t ∈ T, Byt t) ∧ (∀ t ∈ T, t.length ≤ 9223372036854775807) ∧ T.length ≤ 9223372036854775807) (size : Int) (hs : (Lit.int .i64 size).wf = true) {ov : Value} (os : List Int) (ho : Has w w.heap.size 1 (encN .i64) ov os ∧ (∀ z ∈ os, (Lit.int .i64 z).wf = true) ∧ os.length ≤ 9223372036854775807) (below : Int) (hb : (Lit.int .u64 below).wf = true) :
    Calls Try.prog 5 #[tv, .int .i64 size, ov, .int .u64 below] w fun e w' => e = .returned (.bool true) ∧ Below w.heap.size w w' := by
  rcases Nat.eq_zero_or_pos T.length with h0 | h0
  · exact walk_peerOnceZ w T ht h0 size hs os ho below hb
  · exact walk_peerOnceK w T ht h0 size hs os ho below hb
end Go.Proofs.Ytddnlbkocmpffaa
