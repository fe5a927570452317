/- The walk of SrptOldest. -/
import Derived.Test.YtpcgfejdeanenaaSrX
import Derived.Test.YtpcgfejdeanenaaSrZ
namespace Go.Proofs.Ytpcgfejdeanenaa
open Go.ChangeShapes Go.WideShapes Go.RowKit
set_option linter.unusedVariables false
set_option maxHeartbeats 8000000
set_option maxRecDepth 100000
attribute [local go_sem ↓] Go.wp_at_zero Go.wp_at_succ
theorem old_snoc (n : Nat) : oldMs (n + 1) = oldMs n ++ [⟨1 + (n : Int) % 7, (n : Int) / 7 + 1, 1 + (n : Int), 0, 0, 1 + (n : Int)⟩] := by
  unfold oldMs
  rw [List.range_succ, List.map_append, List.cons_append]
  rfl
theorem walk_oldest (N : Nat) (k budget share : Int) (w : World) (n2 : N ≤ 30) (n1 : 1 ≤ N) (k1 : 1 ≤ k) (k8 : k ≤ 8) (b0 : 1 ≤ budget) (b1 : budget ≤ 1073741824) (s1 : 1 ≤ share) (s2 : share ≤ budget) :
    Calls Try.prog 6 #[.int .i64 (N : Int), .int .i64 k, .int .i64 budget, .int .i64 share] w fun e w' => e = .returned (.bool true) ∧ Mod (fun _ => False) w w' := by
  obtain ⟨i0, hi0, hz0, hz1, hz2⟩ := info_parts msg_info
  have hown1 : Own (w.alloc (.cells #[.int .i64 0, .int .u64 1, .int .i64 1073741824, .int .i64 0, .int .i64 0, .int .i64 0] 39)) w.heap.size 39 6 encM (.slice (some ⟨w.heap.size, 0, none⟩) 1 1) (oldMs 0) :=
    World.ownsRow_lit (base := w.heap.size) (size := 6) (e := 39) w #[.int .i64 0, .int .u64 1, .int .i64 1073741824, .int .i64 0, .int .i64 0, .int .i64 0] 1 (Nat.le_refl _) (by decide) rfl
  have hm1 : Mod (fun _ => False) w (w.alloc (.cells #[.int .i64 0, .int .u64 1, .int .i64 1073741824, .int .i64 0, .int .i64 0, .int .i64 0] 39)) := (Mod.refl _ w).alloc _
  have HO1 := Lib.hid hown1
  have HM1 := Lib.hid hm1
  clear hown1 hm1
  have n1' : (1 : Int) ≤ (N : Int) := by omega
  have n2' : (N : Int) ≤ 30 := by omega
  go_enter Try.func6, Try.ntmps6
  go_wp2_with fail
  go_loopw [9, 10] (fun x i wr => ∃ q : Nat, i = .int .i64 q ∧ q ≤ N ∧ Own wr w.heap.size 39 6 encM x (oldMs q) ∧ Mod (fun _ => False) w wr) (fun _ i _ => N - (intOf i).toNat)
  case atStart => exact ⟨0, rfl, by omega, HO1.out, HM1.out⟩
  case round =>
    obtain ⟨q, rfl, hq, hx, hm⟩ := hrel
    clear HO1 HM1
    obtain ⟨Ax, cx, rfl, hcx, -⟩ := hx.form
    have hln := old_len q
    rw [hln] at hx hcx ⊢
    by_cases hqn : q < N
    · have hrow : wr.ownsRow w.heap.size 39 6 (.slice Ax (q + 1) cx) (q + 1) ((oldMs q).flatMap encM) := by
        have h := hx
        unfold Own at h
        rw [hln] at h
        exact h
      have hbase : ∀ z, (Value.slice Ax (q + 1) cx).ownBlock = some z → w.heap.size ≤ z := fun z e => hx.base e
      have HRW := Lib.hid (own_mod ((Mod.refl (fun _ => False) wr).alloc (.cells #[.int .i64 (1 + (q : Int) % 7), .int .u64 ((q : Int) / 7 + 1), .int .i64 (1 + (q : Int)), .int .i64 0, .int .i64 0, .int .i64 (1 + (q : Int))] 39)) hrow (fun _ _ e => e))
      have HLIT := Lib.hid (Reads.of_own (World.ownsRow_lit (base := 0) (size := 6) (e := 39) wr #[.int .i64 (1 + (q : Int) % 7), .int .u64 ((q : Int) / 7 + 1), .int .i64 (1 + (q : Int)), .int .i64 0, .int .i64 0, .int .i64 (1 + (q : Int))] 1 (Nat.zero_le _) (by decide) rfl))
      have hszr := hm.size
      have HM := Lib.hid hm
      have HBA := Lib.hid hbase
      have HSN := Lib.hid (old_snoc q)
      have HLN := Lib.hid hln
      clear hrow hbase hx hm hln
      go_wp2_with (at_builtin
                   refine wpList_append_any _ rfl (.tmp 52) (.tmp 65) _ rfl w.heap.size 39 i0 _ 6 48 Try.underlying24 hi0 hz0 hz1 hz2 rfl (by omega) (.slice Ax (q + 1) cx) (q + 1) ((oldMs q).flatMap encM) rfl HRW.out _ (some ⟨wr.heap.size, 0, none⟩) 1 1 [.int .i64 (1 + (q : Int) % 7), .int .u64 ((q : Int) / 7 + 1), .int .i64 (1 + (q : Int)), .int .i64 0, .int .i64 0, .int .i64 (1 + (q : Int))] rfl HLIT.out (one_M _ _ _ _ _ _) (by simp only [maxLen]; omega) (by omega) (by simp; omega) ?_
                   intro v2 w9 hown2 hgr2 hat2
                   have hown3 : Own w9 w.heap.size 39 6 encM v2 (oldMs (q + 1)) := by
                     unfold Own
                     rw [HSN.out, flat_snoc, List.length_append, HLN.out]
                     exact hown2
                   have m9 := (HM.out.alloc (.cells #[.int .i64 (1 + (q : Int) % 7), .int .u64 ((q : Int) / 7 + 1), .int .i64 (1 + (q : Int)), .int .i64 0, .int .i64 0, .int .i64 (1 + (q : Int))] 39)).trans (Mod.ofGrown hgr2) (fun q hq e => by have := HBA.out q e; omega)
                   have M9 := Lib.hid m9
                   have HO9 := Lib.hid hown3
                   clear hown2 hgr2 hat2 hown3 m9)
      go_wp2_with fail
      go_roundw
      case rel => exact ⟨q + 1, by go_num, by omega, HO9.out, M9.out⟩
      case measure => simp [intOf]; omega
    · obtain rfl : q = N := by omega
      have hc := grantsW (.slice Ax (q + 1) cx) (oldMs q) k budget share wr hx.has (by rw [hln]; omega) k1 k8 (by omega) (by omega) (by omega) s2
      obtain ⟨g, gs, hg, g1, g2, g3, g4⟩ := old_law n2 k1 b1 s1 s2
      rw [hg] at hc
      have HC := Lib.hid hc
      have HX := Lib.hid hx
      have HM := Lib.hid hm
      have ho := old_oldest n2
      have HO := Lib.hid ho
      have HLN := Lib.hid hln
      clear hc hg hx hm ho hln
      go_wp2_with fail
      refine HC.out.mono ?_
      rintro e w2 ⟨v2, rfl, hown2, m2⟩
      obtain ⟨gg, cg, rfl, b0', b1', b2', b3'⟩ := hown2.cells4 (i := 0) (x := g) rfl
      rw [Nat.zero_mul] at b0' b1' b2' b3'
      rw [g1] at b0'
      rw [g2] at b1'
      have hoc := oldestW (.slice Ax (q + 1) cx) (oldMs q) w2 (HX.out.later m2).has (by rw [HLN.out]; omega)
      rw [HO.out] at hoc
      have HOC := Lib.hid hoc
      have M2 := Lib.hid (HM.out.trans m2 (fun _ _ e => e))
      have hle : decide (min share 1073741824 ≤ g.upto) = true := by simp; omega
      have hnl : 1 ≤ (g :: gs).length := by simp
      generalize (g :: gs).length = nl at *
      have hnl' : (1 : Int) ≤ (nl : Int) := by omega
      clear hoc hown2 m2 HC g1 g2
      by_cases hnk : (q : Int) < k
      · go_wp2_with fail
        refine HOC.out.mono ?_
        rintro e w3 ⟨rfl, m3⟩
        have M3 := Lib.hid (M2.out.trans m3 (fun _ _ e => e))
        clear m3
        go_wp2_with fail
        refine (awakeW _).mono ?_
        rintro e w4 ⟨rfl, m4⟩
        have M4 := Lib.hid (M3.out.trans m4 (fun _ _ e => e))
        clear m4
        go_wp2_with fail
        go_ret
        exact ⟨rfl, M4.out⟩
      · have hp := g4 (by omega)
        rw [hp] at b3'
        go_wp2_with fail
        refine HOC.out.mono ?_
        rintro e w3 ⟨rfl, m3⟩
        have b3'' := kept m3 b3'
        have M3 := Lib.hid (M2.out.trans m3 (fun _ _ e => e))
        clear m3
        go_wp2_with fail
        refine (awakeW _).mono ?_
        rintro e w4 ⟨rfl, m4⟩
        have M4 := Lib.hid (M3.out.trans m4 (fun _ _ e => e))
        clear m4
        go_wp2_with fail
        go_ret
        exact ⟨rfl, M4.out⟩
/-- What may be asked there. -/
def askO (n k budget share : Int) : Prop := 1 ≤ n ∧ n ≤ 30 ∧ 1 ≤ k ∧ k ≤ 8 ∧ 1 ≤ budget ∧ budget ≤ 1073741824 ∧ 1 ≤ share ∧ share ≤ budget
instance (n k budget share : Int) : Decidable (askO n k budget share) := by unfold askO; infer_instance
theorem walk_oldestNo (n k budget share : Int) (w : World) (h : ¬ askO n k budget share) :
    Calls Try.prog 6 #[.int .i64 n, .int .i64 k, .int .i64 budget, .int .i64 share] w fun e w' => e = .returned (.bool true) ∧ Mod (fun _ => False) w w' := by
  have H := Lib.hid h
  clear h
  go_enter Try.func6, Try.ntmps6
  by_cases c1 : n < 1
  · go_wp2_with fail
    refine (awakeW _).mono ?_
    rintro e w1 ⟨rfl, m1⟩
    go_wp2_with fail
    go_ret
    exact ⟨rfl, m1⟩
  by_cases c2 : 30 < n
  · go_wp2_with fail
    refine (awakeW _).mono ?_
    rintro e w1 ⟨rfl, m1⟩
    go_wp2_with fail
    go_ret
    exact ⟨rfl, m1⟩
  by_cases c3 : k < 1
  · go_wp2_with fail
    refine (awakeW _).mono ?_
    rintro e w1 ⟨rfl, m1⟩
    go_wp2_with fail
    go_ret
    exact ⟨rfl, m1⟩
  by_cases c4 : 8 < k
  · go_wp2_with fail
    refine (awakeW _).mono ?_
    rintro e w1 ⟨rfl, m1⟩
    go_wp2_with fail
    go_ret
    exact ⟨rfl, m1⟩
  by_cases c5 : budget < 1
  · go_wp2_with fail
    refine (awakeW _).mono ?_
    rintro e w1 ⟨rfl, m1⟩
    go_wp2_with fail
    go_ret
    exact ⟨rfl, m1⟩
  by_cases c6 : 1073741824 < budget
  · go_wp2_with fail
    refine (awakeW _).mono ?_
    rintro e w1 ⟨rfl, m1⟩
    go_wp2_with fail
    go_ret
    exact ⟨rfl, m1⟩
  by_cases c7 : share < 1
  · go_wp2_with fail
    refine (awakeW _).mono ?_
    rintro e w1 ⟨rfl, m1⟩
    go_wp2_with fail
    go_ret
    exact ⟨rfl, m1⟩
  by_cases c8 : budget < share
  · go_wp2_with fail
    refine (awakeW _).mono ?_
    rintro e w1 ⟨rfl, m1⟩
    go_wp2_with fail
    go_ret
    exact ⟨rfl, m1⟩
  exact absurd ⟨by omega, by omega, by omega, by omega, by omega, by omega, by omega, by omega⟩ H.out
theorem walk_srptOldest (n : Int) (w0 : (Lit.int .i64 n).wf = true) (k : Int) (w1 : (Lit.int .i64 k).wf = true) (budget : Int) (w2 : (Lit.int .i64 budget).wf = true) (share : Int) (w3 : (Lit.int .i64 share).wf = true) (w : World) :
    Calls Try.prog 6 #[.int .i64 n, .int .i64 k, .int .i64 budget, .int .i64 share] w fun e w' => e = .returned (.bool true) ∧ Below w.heap.size w w' := by
  have key : Calls Try.prog 6 #[.int .i64 n, .int .i64 k, .int .i64 budget, .int .i64 share] w fun e w' => e = .returned (.bool true) ∧ Mod (fun _ => False) w w' := by
    by_cases ha : askO n k budget share
    · obtain ⟨a, b, c, d, e, f, g, h⟩ := ha
      obtain ⟨N, rfl⟩ : ∃ N : Nat, n = N := ⟨n.toNat, by omega⟩
      exact walk_oldest N k budget share w (by omega) (by omega) c d e f g h
    · exact walk_oldestNo n k budget share w ha
  exact key.mono fun e w' ⟨he, hm⟩ => ⟨he, hm.below⟩
end Go.Proofs.Ytpcgfejdeanenaa
