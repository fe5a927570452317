/- peer.Receivers.opens. -/
import Derived.Test.YtddnlbkocmpffaaZRecW
import Derived.BigQuiet
import Derived.Deep.QuietTactic
namespace Go.Proofs.Ytddnlbkocmpffaa
open Go.RowKit
set_option linter.unusedVariables false
set_option maxHeartbeats 4000000
set_option maxRecDepth 100000
section
variable {rb : Nat} {ad : RAd} {R : RecA} {w : World} {s : Nat → Prop}
/-- .. behind a message that is opened. -/
def RecA.open (R : RecA) (i : Nat) (id : Int) (tot : Nat) : RecA := { R with tab := setBuf R.tab ((i : Int), id) (some (newBuf tot)), n := R.n + 1, known := setAt R.known i (R.known i + 1) }
theorem opensBad (h : RecX rb ad R w s) (hl : RLink ad R) (i : Nat) (hi : i < 8) (id : Int) (tot : Nat) {b : BufA} (hk : R.tab (i, id) = some b) (ht : b.bs.length ≠ tot) :
    Calls Try.prog 36 #[.pointer (some ⟨rb, 0, none⟩), .agg #[.int .i64 i, .int .u64 id], .int .i64 tot] w fun e w' => e = .returned (.tuple #[.pointer none, .int .i64 2]) ∧ Mod NoB w w' := by
  have ha := (Mod.refl NoB w).alloc (.cells #[.int .i64 i, .int .u64 id] 92)
  obtain ⟨w1, hw1⟩ : ∃ w1, w.alloc (.cells #[.int .i64 i, .int .u64 id] 92) = w1 := ⟨_, rfl⟩
  obtain ⟨kb, hkb⟩ : ∃ kb, w.heap.size = kb := ⟨_, rfl⟩
  have hbk := Blk.new w 92 #[.int .i64 i, .int .u64 id]
  rw [hw1] at ha hbk
  rw [hkb] at hbk
  have hx1 := h.later ha
  have X1 : Hid (∀ W, Mod NoB w1 W → RecX rb ad R W s) := Lib.hid (fun W hW => hx1.later hW)
  have B1 : Hid (∀ W, Mod NoB w1 W → Blk W kb 92 #[.int .i64 i, .int .u64 id]) := Lib.hid (fun W hW => hbk.mod hW (fun e => e))
  have HA := Lib.hid ha
  have G1 := Lib.hid (fun x : Later w1 => (show Calls Try.prog 56 #[.pointer (some ⟨ad.bt, 0, none⟩), .agg #[.int .i64 i, .int .u64 id]] x.world fun e w' => e = .returned (.tuple #[.pointer (some ⟨ad.bb (i, id), 0, none⟩), .bool true]) ∧ Mod NoB x.world w' from by
    obtain ⟨t, -, ht, -⟩ := (hx1.later x.mod).tabP
    have := TabBuf.getT ad.bt ad.bs R.most R.n ad.m i id x.world ht
    rw [hl.tab, hk] at this
    exact this))
  have c1 : ∀ x : Later w1, x.world.cell? ⟨rb, 1, none⟩ = some (.pointer (some ⟨ad.bt, 0, none⟩)) := fun x => (hx1.later x.mod).top.2.cell 1
  have c2 : ∀ x : Later w1, x.world.cell? ⟨kb, 0, none⟩ = some (.int .i64 i) := fun x => (hbk.mod x.mod (fun e => e)).cell 0
  have c3 : ∀ x : Later w1, x.world.cell? ⟨kb, 1, none⟩ = some (.int .u64 id) := fun x => (hbk.mod x.mod (fun e => e)).cell 1
  have c4 : ∀ x : Later w1, x.world.cell? ⟨rb, 2 + i, none⟩ = some (.pointer (some ⟨ad.wb i, 0, none⟩)) := fun x => ((hx1.later x.mod).top.2.cell (2 + i)).trans (recCells_win hi)
  have i1 : (0 : Int) ≤ (i : Int) := by omega
  have i2 : (i : Int) < 8 := by omega
  have T1 := Lib.hid (fun W (hW : Mod NoB w1 W) => (show Calls Try.prog 57 #[.pointer (some ⟨ad.bb (i, id), 0, none⟩)] W fun e w' => e = .returned (.int .i64 (b.bs.length : Nat)) ∧ W = w' from by
    obtain ⟨t, ht, -⟩ := (hx1.later hW).bufP (i, id) hk
    exact bufTotalW _ b W t ht))
  have hb1 : ((b.bs.length : Int) == (tot : Int)) = false := by rw [beq_eq_false_iff_ne]; omega
  have hb2 : ((b.bs.length : Int) != (tot : Int)) = true := by rw [bne_iff_ne]; omega
  clear hx1 hbk ha h hl hk ht
  go_enter Try.func36, Try.ntmps36
  go_upto_region 1 with fail
  refine region_later (by kernel_rfl) (by kernel_rfl) ?_
  repeat (go_big_quiet_step ((go_at_call 56; exact later_call (G1.out _))))
  refine wpQuiet_nil ?_
  intro _ hw'
  obtain ⟨y, hw''⟩ := hw'
  subst hw''
  have HY := Lib.hid y.mod
  have d2 := c2 y
  have d4 := c4 y
  clear c1 c2 c3 c4 hw1 hkb
  generalize y.world = W1 at *
  go_wp2_with fail
  go_quiet (fail)
  clear d2 d4
  have HZ := Lib.hid (HY.out.drewN nq)
  clear HY
  rename Hid (Mod NoB w1 (W1.drewN nq)) => HY
  generalize W1.drewN nq = W2 at *
  go_wp2_with fail
  refine (T1.out _ HY.out).mono ?_
  rintro e w2 ⟨rfl, rfl⟩
  go_wp2_with fail
  go_ret2
  exact ⟨rfl, HA.out.trans HY.out (fun _ _ e => e)⟩
theorem opensOld (h : RecX rb ad R w s) (hl : RLink ad R) (i : Nat) (hi : i < 8) (id : Int) (tot : Nat) {b : BufA} (hk : R.tab (i, id) = some b) (ht : b.bs.length = tot) :
    Calls Try.prog 36 #[.pointer (some ⟨rb, 0, none⟩), .agg #[.int .i64 i, .int .u64 id], .int .i64 tot] w fun e w' => e = .returned (.tuple #[.pointer (some ⟨ad.bb (i, id), 0, none⟩), .int .i64 0]) ∧ Mod NoB w w' := by
  have ha := (Mod.refl NoB w).alloc (.cells #[.int .i64 i, .int .u64 id] 92)
  obtain ⟨w1, hw1⟩ : ∃ w1, w.alloc (.cells #[.int .i64 i, .int .u64 id] 92) = w1 := ⟨_, rfl⟩
  obtain ⟨kb, hkb⟩ : ∃ kb, w.heap.size = kb := ⟨_, rfl⟩
  have hbk := Blk.new w 92 #[.int .i64 i, .int .u64 id]
  rw [hw1] at ha hbk
  rw [hkb] at hbk
  have hx1 := h.later ha
  have X1 : Hid (∀ W, Mod NoB w1 W → RecX rb ad R W s) := Lib.hid (fun W hW => hx1.later hW)
  have B1 : Hid (∀ W, Mod NoB w1 W → Blk W kb 92 #[.int .i64 i, .int .u64 id]) := Lib.hid (fun W hW => hbk.mod hW (fun e => e))
  have HA := Lib.hid ha
  have G1 := Lib.hid (fun x : Later w1 => (show Calls Try.prog 56 #[.pointer (some ⟨ad.bt, 0, none⟩), .agg #[.int .i64 i, .int .u64 id]] x.world fun e w' => e = .returned (.tuple #[.pointer (some ⟨ad.bb (i, id), 0, none⟩), .bool true]) ∧ Mod NoB x.world w' from by
    obtain ⟨t, -, ht, -⟩ := (hx1.later x.mod).tabP
    have := TabBuf.getT ad.bt ad.bs R.most R.n ad.m i id x.world ht
    rw [hl.tab, hk] at this
    exact this))
  have c1 : ∀ x : Later w1, x.world.cell? ⟨rb, 1, none⟩ = some (.pointer (some ⟨ad.bt, 0, none⟩)) := fun x => (hx1.later x.mod).top.2.cell 1
  have c2 : ∀ x : Later w1, x.world.cell? ⟨kb, 0, none⟩ = some (.int .i64 i) := fun x => (hbk.mod x.mod (fun e => e)).cell 0
  have c3 : ∀ x : Later w1, x.world.cell? ⟨kb, 1, none⟩ = some (.int .u64 id) := fun x => (hbk.mod x.mod (fun e => e)).cell 1
  have c4 : ∀ x : Later w1, x.world.cell? ⟨rb, 2 + i, none⟩ = some (.pointer (some ⟨ad.wb i, 0, none⟩)) := fun x => ((hx1.later x.mod).top.2.cell (2 + i)).trans (recCells_win hi)
  have i1 : (0 : Int) ≤ (i : Int) := by omega
  have i2 : (i : Int) < 8 := by omega
  have T1 := Lib.hid (fun W (hW : Mod NoB w1 W) => (show Calls Try.prog 57 #[.pointer (some ⟨ad.bb (i, id), 0, none⟩)] W fun e w' => e = .returned (.int .i64 (b.bs.length : Nat)) ∧ W = w' from by
    obtain ⟨t, ht, -⟩ := (hx1.later hW).bufP (i, id) hk
    exact bufTotalW _ b W t ht))
  rw [ht] at T1
  clear hx1 hbk ha h hl hk ht
  go_enter Try.func36, Try.ntmps36
  go_upto_region 1 with fail
  refine region_later (by kernel_rfl) (by kernel_rfl) ?_
  repeat (go_big_quiet_step ((go_at_call 56; exact later_call (G1.out _))))
  refine wpQuiet_nil ?_
  intro _ hw'
  obtain ⟨y, hw''⟩ := hw'
  subst hw''
  have HY := Lib.hid y.mod
  have d2 := c2 y
  have d4 := c4 y
  clear c1 c2 c3 c4 hw1 hkb
  generalize y.world = W1 at *
  go_wp2_with fail
  go_quiet (fail)
  clear d2 d4
  have HZ := Lib.hid (HY.out.drewN nq)
  clear HY
  rename Hid (Mod NoB w1 (W1.drewN nq)) => HY
  generalize W1.drewN nq = W2 at *
  go_wp2_with fail
  refine (T1.out _ HY.out).mono ?_
  rintro e w2 ⟨rfl, rfl⟩
  go_wp2_with fail
  go_ret2
  exact ⟨rfl, HA.out.trans HY.out (fun _ _ e => e)⟩
theorem opensFull (h : RecX rb ad R w s) (hl : RLink ad R) (i : Nat) (hi : i < 8) (id : Int) (tot : Nat) (hk : R.tab (i, id) = none) (hkn : -1000000 ≤ R.known i ∧ R.known i ≤ 1000000) (hg : R.most ≤ R.n ∨ (R.most ≤ ((R.win i).2.length : Int) + R.known i ∧ (R.win i).1 ≠ id)) :
    Calls Try.prog 36 #[.pointer (some ⟨rb, 0, none⟩), .agg #[.int .i64 i, .int .u64 id], .int .i64 tot] w fun e w' => e = .returned (.tuple #[.pointer none, .int .i64 4]) ∧ Mod NoB w w' := by
  have ha := (Mod.refl NoB w).alloc (.cells #[.int .i64 i, .int .u64 id] 92)
  obtain ⟨w1, hw1⟩ : ∃ w1, w.alloc (.cells #[.int .i64 i, .int .u64 id] 92) = w1 := ⟨_, rfl⟩
  obtain ⟨kb, hkb⟩ : ∃ kb, w.heap.size = kb := ⟨_, rfl⟩
  have hbk := Blk.new w 92 #[.int .i64 i, .int .u64 id]
  rw [hw1] at ha hbk
  rw [hkb] at hbk
  have hx1 := h.later ha
  have X1 : Hid (∀ W, Mod NoB w1 W → RecX rb ad R W s) := Lib.hid (fun W hW => hx1.later hW)
  have B1 : Hid (∀ W, Mod NoB w1 W → Blk W kb 92 #[.int .i64 i, .int .u64 id]) := Lib.hid (fun W hW => hbk.mod hW (fun e => e))
  have HA := Lib.hid ha
  have G1 := Lib.hid (fun x : Later w1 => (show Calls Try.prog 56 #[.pointer (some ⟨ad.bt, 0, none⟩), .agg #[.int .i64 i, .int .u64 id]] x.world fun e w' => e = .returned (.tuple #[.pointer none, .bool false]) ∧ Mod NoB x.world w' from by
    obtain ⟨t, -, ht, -⟩ := (hx1.later x.mod).tabP
    have := TabBuf.getT ad.bt ad.bs R.most R.n ad.m i id x.world ht
    rw [hl.tab, hk] at this
    exact this))
  have c1 : ∀ x : Later w1, x.world.cell? ⟨rb, 1, none⟩ = some (.pointer (some ⟨ad.bt, 0, none⟩)) := fun x => (hx1.later x.mod).top.2.cell 1
  have c2 : ∀ x : Later w1, x.world.cell? ⟨kb, 0, none⟩ = some (.int .i64 i) := fun x => (hbk.mod x.mod (fun e => e)).cell 0
  have c3 : ∀ x : Later w1, x.world.cell? ⟨kb, 1, none⟩ = some (.int .u64 id) := fun x => (hbk.mod x.mod (fun e => e)).cell 1
  have c4 : ∀ x : Later w1, x.world.cell? ⟨rb, 2 + i, none⟩ = some (.pointer (some ⟨ad.wb i, 0, none⟩)) := fun x => ((hx1.later x.mod).top.2.cell (2 + i)).trans (recCells_win hi)
  have i1 : (0 : Int) ≤ (i : Int) := by omega
  have i2 : (i : Int) < 8 := by omega
  obtain ⟨N, hN⟩ : ∃ N, R.n = N := ⟨_, rfl⟩
  obtain ⟨M, hM⟩ : ∃ M, R.most = M := ⟨_, rfl⟩
  obtain ⟨Kn, hKn⟩ : ∃ Kn, R.known i = Kn := ⟨_, rfl⟩
  obtain ⟨wn, hwn⟩ : ∃ wn, R.win i = wn := ⟨_, rfl⟩
  obtain ⟨mk, wl⟩ := wn
  obtain ⟨Lw, hLw⟩ : ∃ Lw : Int, (wl.length : Int) = Lw := ⟨_, rfl⟩
  rw [hN, hM] at hg
  rw [hwn, hKn] at hg
  rw [hKn] at hkn
  dsimp only at hg
  rw [hLw] at hg
  have hLb : 0 ≤ Lw ∧ Lw ≤ 100000 := by
    obtain ⟨t, ⟨v, hw, -, -⟩, -⟩ := h.winP hi
    have q1 := hw.room
    have q2 := hw.small
    rw [hwn] at q1
    dsimp only at q1
    omega
  have T1 := Lib.hid (fun W (hW : Mod NoB w1 W) => (show Calls Try.prog 41 #[.pointer (some ⟨ad.bt, 0, none⟩)] W fun e w' => e = .returned (.int .i64 N) ∧ W = w' from by
    obtain ⟨t, -, ht, -⟩ := (hx1.later hW).tabP
    rw [← hN]
    exact TabBuf.lenT _ _ _ _ _ W ht))
  have T2 := Lib.hid (fun W (hW : Mod NoB w1 W) => (show Calls Try.prog 58 #[.pointer (some ⟨ad.wb i, 0, none⟩)] W fun e w' => e = .returned (.int .i64 Lw) ∧ W = w' from by
    obtain ⟨t, ⟨v, hw, -, -⟩, -⟩ := (hx1.later hW).winP hi
    rw [hwn] at hw
    rw [← hLw]
    exact lenW _ _ _ _ _ W 0 hw))
  have T3 := Lib.hid (fun W (hW : Mod NoB w1 W) => (show Calls Try.prog 59 #[.pointer (some ⟨ad.wb i, 0, none⟩)] W fun e w' => e = .returned (.int .u64 mk) ∧ W = w' from by
    obtain ⟨t, ⟨v, hw, -, -⟩, -⟩ := (hx1.later hW).winP hi
    rw [hwn] at hw
    exact markW _ _ _ _ _ W 0 hw))
  have C5 := Lib.hid (fun W (hW : Mod NoB w1 W) => (show W.cell? ⟨rb, 10 + i, none⟩ = some (.int .i64 Kn) from by
    have := ((hx1.later hW).top.2.cell (10 + i)).trans (recCells_known hi)
    rw [hKn] at this
    exact this))
  have C6 := Lib.hid (fun W (hW : Mod NoB w1 W) => (show W.cell? ⟨rb, 18, none⟩ = some (.int .i64 M) from by
    have := (hx1.later hW).top.2.cell 18
    rw [← hM]
    exact this))
  have hws : IntKind.i64.wrap (Lw + Kn) = Lw + Kn := by rw [IntKind.wrap_i64]; omega
  clear hx1 hbk ha h hl hk hN hM hKn hwn hLw
  go_enter Try.func36, Try.ntmps36
  go_upto_region 1 with fail
  refine region_later (by kernel_rfl) (by kernel_rfl) ?_
  repeat (go_big_quiet_step ((go_at_call 56; exact later_call (G1.out _))))
  refine wpQuiet_nil ?_
  intro _ hw'
  obtain ⟨y, hw''⟩ := hw'
  subst hw''
  have HY := Lib.hid y.mod
  have d2 := c2 y
  have d4 := c4 y
  clear c1 c2 c3 c4 hw1 hkb
  generalize y.world = W1 at *
  go_wp2_with fail
  go_quiet (fail)
  clear d2 d4
  have HZ := Lib.hid (HY.out.drewN nq)
  clear HY
  rename Hid (Mod NoB w1 (W1.drewN nq)) => HY
  generalize W1.drewN nq = W2 at *
  have hsp : (M ≤ N ∧ decide (M ≤ N) = true) ∨ (¬ M ≤ N ∧ decide (M ≤ N) = false ∧ M ≤ Lw + Kn ∧ decide (M ≤ Lw + Kn) = true ∧ (mk == id) = false ∧ (mk != id) = true) := by
    by_cases hMN : M ≤ N
    · exact .inl ⟨hMN, decide_eq_true hMN⟩
    · obtain ⟨hg1, hg2⟩ := hg.resolve_left hMN
      exact .inr ⟨hMN, decide_eq_false hMN, hg1, decide_eq_true hg1, by rw [beq_eq_false_iff_ne]; exact hg2, by rw [bne_iff_ne]; exact hg2⟩
  clear hg hLb hkn
  go_wp2_with fail
  rcases hsp with ⟨g1, g2⟩ | ⟨g1, g2, g3, g4, g5, g6⟩
  all_goals
    have e0 : W2.cell? ⟨kb, 0, none⟩ = some (.int .i64 i) := (B1.out _ HY.out).cell 0
    have e1 : W2.cell? ⟨kb, 1, none⟩ = some (.int .u64 id) := (B1.out _ HY.out).cell 1
    have e2 : W2.cell? ⟨rb, 1, none⟩ = some (.pointer (some ⟨ad.bt, 0, none⟩)) := (X1.out _ HY.out).top.2.cell 1
    have e5 := C5.out _ HY.out
    have e6 := C6.out _ HY.out
    go_quiet ((first | (go_at_call 41; exact quiet_eq (T1.out _ (HY.out.drewN _))) | (go_at_call 58; exact quiet_eq (T2.out _ (HY.out.drewN _))) | (go_at_call 59; exact quiet_eq (T3.out _ (HY.out.drewN _)))))
    go_wp2_with fail
    go_ret2
    exact ⟨rfl, (HA.out.trans HY.out (fun _ _ e => e)).drewN _⟩
theorem opensNew0 (h : RecX rb ad R w s) (hl : RLink ad R) (i : Nat) (hi : i < 8) (id : Int) (tot : Nat) (hsz : ∀ k, s k → k < w.heap.size) (hk : R.tab (i, id) = none) (hkn : -1000000 ≤ R.known i ∧ R.known i ≤ 1000000) (hg : R.n < R.most ∧ (¬ R.most ≤ ((R.win i).2.length : Int) + R.known i ∨ (R.win i).1 = id)) (ht1 : (tot : Int) ≤ R.maxMsg) (ht2 : R.maxMsg ≤ 20000) :
    Calls Try.prog 36 #[.pointer (some ⟨rb, 0, none⟩), .agg #[.int .i64 i, .int .u64 id], .int .i64 tot] w fun e w' => ∃ ad', e = .returned (.tuple #[.pointer (some ⟨ad'.bb (i, id), 0, none⟩), .int .i64 0]) ∧ RecX rb ad' (R.open i id tot) w' (Ext s w w') ∧ RLink ad' (R.open i id tot) ∧ Mod s w w' := by
  have ha := (Mod.refl NoB w).alloc (.cells #[.int .i64 i, .int .u64 id] 92)
  obtain ⟨w1, hw1⟩ : ∃ w1, w.alloc (.cells #[.int .i64 i, .int .u64 id] 92) = w1 := ⟨_, rfl⟩
  obtain ⟨kb, hkb⟩ : ∃ kb, w.heap.size = kb := ⟨_, rfl⟩
  have hbk := Blk.new w 92 #[.int .i64 i, .int .u64 id]
  rw [hw1] at ha hbk
  rw [hkb] at hbk
  have hx1 := h.later ha
  have X1 : Hid (∀ W, Mod NoB w1 W → RecX rb ad R W s) := Lib.hid (fun W hW => hx1.later hW)
  have B1 : Hid (∀ W, Mod NoB w1 W → Blk W kb 92 #[.int .i64 i, .int .u64 id]) := Lib.hid (fun W hW => hbk.mod hW (fun e => e))
  have HA := Lib.hid ha
  have G1 := Lib.hid (fun x : Later w1 => (show Calls Try.prog 56 #[.pointer (some ⟨ad.bt, 0, none⟩), .agg #[.int .i64 i, .int .u64 id]] x.world fun e w' => e = .returned (.tuple #[.pointer none, .bool false]) ∧ Mod NoB x.world w' from by
    obtain ⟨t, -, ht, -⟩ := (hx1.later x.mod).tabP
    have := TabBuf.getT ad.bt ad.bs R.most R.n ad.m i id x.world ht
    rw [hl.tab, hk] at this
    exact this))
  have c1 : ∀ x : Later w1, x.world.cell? ⟨rb, 1, none⟩ = some (.pointer (some ⟨ad.bt, 0, none⟩)) := fun x => (hx1.later x.mod).top.2.cell 1
  have c2 : ∀ x : Later w1, x.world.cell? ⟨kb, 0, none⟩ = some (.int .i64 i) := fun x => (hbk.mod x.mod (fun e => e)).cell 0
  have c3 : ∀ x : Later w1, x.world.cell? ⟨kb, 1, none⟩ = some (.int .u64 id) := fun x => (hbk.mod x.mod (fun e => e)).cell 1
  have c4 : ∀ x : Later w1, x.world.cell? ⟨rb, 2 + i, none⟩ = some (.pointer (some ⟨ad.wb i, 0, none⟩)) := fun x => ((hx1.later x.mod).top.2.cell (2 + i)).trans (recCells_win hi)
  have i1 : (0 : Int) ≤ (i : Int) := by omega
  have i2 : (i : Int) < 8 := by omega
  obtain ⟨N, hN⟩ : ∃ N, R.n = N := ⟨_, rfl⟩
  obtain ⟨M, hM⟩ : ∃ M, R.most = M := ⟨_, rfl⟩
  obtain ⟨Kn, hKn⟩ : ∃ Kn, R.known i = Kn := ⟨_, rfl⟩
  obtain ⟨wn, hwn⟩ : ∃ wn, R.win i = wn := ⟨_, rfl⟩
  obtain ⟨mk, wl⟩ := wn
  obtain ⟨Lw, hLw⟩ : ∃ Lw : Int, (wl.length : Int) = Lw := ⟨_, rfl⟩
  rw [hN, hM] at hg
  rw [hwn, hKn] at hg
  rw [hKn] at hkn
  dsimp only at hg
  rw [hLw] at hg
  have hLb : 0 ≤ Lw ∧ Lw ≤ 100000 := by
    obtain ⟨t, ⟨v, hw, -, -⟩, -⟩ := h.winP hi
    have q1 := hw.room
    have q2 := hw.small
    rw [hwn] at q1
    dsimp only at q1
    omega
  have T1 := Lib.hid (fun W (hW : Mod NoB w1 W) => (show Calls Try.prog 41 #[.pointer (some ⟨ad.bt, 0, none⟩)] W fun e w' => e = .returned (.int .i64 N) ∧ W = w' from by
    obtain ⟨t, -, ht, -⟩ := (hx1.later hW).tabP
    rw [← hN]
    exact TabBuf.lenT _ _ _ _ _ W ht))
  have T2 := Lib.hid (fun W (hW : Mod NoB w1 W) => (show Calls Try.prog 58 #[.pointer (some ⟨ad.wb i, 0, none⟩)] W fun e w' => e = .returned (.int .i64 Lw) ∧ W = w' from by
    obtain ⟨t, ⟨v, hw, -, -⟩, -⟩ := (hx1.later hW).winP hi
    rw [hwn] at hw
    rw [← hLw]
    exact lenW _ _ _ _ _ W 0 hw))
  have T3 := Lib.hid (fun W (hW : Mod NoB w1 W) => (show Calls Try.prog 59 #[.pointer (some ⟨ad.wb i, 0, none⟩)] W fun e w' => e = .returned (.int .u64 mk) ∧ W = w' from by
    obtain ⟨t, ⟨v, hw, -, -⟩, -⟩ := (hx1.later hW).winP hi
    rw [hwn] at hw
    exact markW _ _ _ _ _ W 0 hw))
  have C5 := Lib.hid (fun W (hW : Mod NoB w1 W) => (show W.cell? ⟨rb, 10 + i, none⟩ = some (.int .i64 Kn) from by
    have := ((hx1.later hW).top.2.cell (10 + i)).trans (recCells_known hi)
    rw [hKn] at this
    exact this))
  have C6 := Lib.hid (fun W (hW : Mod NoB w1 W) => (show W.cell? ⟨rb, 18, none⟩ = some (.int .i64 M) from by
    have := (hx1.later hW).top.2.cell 18
    rw [← hM]
    exact this))
  have hws : IntKind.i64.wrap (Lw + Kn) = Lw + Kn := by rw [IntKind.wrap_i64]; omega
  have HL := Lib.hid hl
  have HK := Lib.hid hk
  have HX := Lib.hid h
  have HKn := Lib.hid hKn
  have HNm := Lib.hid (show R.n < R.most by rw [hN, hM]; exact hg.1)
  have hkw : IntKind.i64.wrap (Kn + 1) = Kn + 1 := by rw [IntKind.wrap_i64]; omega
  have HKB := Lib.hid hkb
  have HSZ := Lib.hid hsz
  have HE1 := Lib.hid (Nat.le_of_lt (show w.heap.size < w1.heap.size by rw [← hw1]; simp))
  clear hx1 hbk ha h hl hk hN hM hKn hwn hLw hsz
  go_enter Try.func36, Try.ntmps36
  go_upto_region 1 with fail
  refine region_later (by kernel_rfl) (by kernel_rfl) ?_
  repeat (go_big_quiet_step ((go_at_call 56; exact later_call (G1.out _))))
  refine wpQuiet_nil ?_
  intro _ hw'
  obtain ⟨y, hw''⟩ := hw'
  subst hw''
  have HY := Lib.hid y.mod
  have d2 := c2 y
  have d4 := c4 y
  clear c1 c2 c3 c4 hw1 hkb
  generalize y.world = W1 at *
  go_wp2_with fail
  go_quiet (fail)
  clear d2 d4
  have HZ := Lib.hid (HY.out.drewN nq)
  clear HY
  rename Hid (Mod NoB w1 (W1.drewN nq)) => HY
  generalize W1.drewN nq = W2 at *
  have hsp : (¬ M ≤ N ∧ decide (M ≤ N) = false ∧ M ≤ Lw + Kn ∧ decide (M ≤ Lw + Kn) = true ∧ (mk == id) = true ∧ (mk != id) = false) ∨ (¬ M ≤ N ∧ decide (M ≤ N) = false ∧ ¬ M ≤ Lw + Kn ∧ decide (M ≤ Lw + Kn) = false ∧ True ∧ True) := by
    obtain ⟨hg0, hg1⟩ := hg
    have hMN : ¬ M ≤ N := by omega
    by_cases hML : M ≤ Lw + Kn
    · have hmi := hg1.resolve_left (by omega)
      exact .inl ⟨hMN, decide_eq_false hMN, hML, decide_eq_true hML, by rw [hmi]; exact beq_self_eq_true _, by rw [hmi]; exact bne_self_eq_false _⟩
    · exact .inr ⟨hMN, decide_eq_false hMN, hML, decide_eq_false hML, trivial, trivial⟩
  clear hg hLb hkn
  have HT1 := Lib.hid ht1
  have HT2 := Lib.hid ht2
  clear ht1 ht2
  go_wp2_with fail
  rcases hsp with ⟨g1, g2, g3, g4, g5, g6⟩ | ⟨g1, g2, g3, g4, g5, g6⟩
  all_goals
    have e0 : W2.cell? ⟨kb, 0, none⟩ = some (.int .i64 i) := (B1.out _ HY.out).cell 0
    have e1 : W2.cell? ⟨kb, 1, none⟩ = some (.int .u64 id) := (B1.out _ HY.out).cell 1
    have e2 : W2.cell? ⟨rb, 1, none⟩ = some (.pointer (some ⟨ad.bt, 0, none⟩)) := (X1.out _ HY.out).top.2.cell 1
    have e5 := C5.out _ HY.out
    have e6 := C6.out _ HY.out
    go_quiet ((first | (go_at_call 41; exact quiet_eq (T1.out _ (HY.out.drewN _))) | (go_at_call 58; exact quiet_eq (T2.out _ (HY.out.drewN _))) | (go_at_call 59; exact quiet_eq (T3.out _ (HY.out.drewN _)))))
    have HV := Lib.hid (HY.out.drewN nq)
    clear HY e0 e1 e2 e5 e6
    generalize W2.drewN nq = W3 at *
    have c0 : W3.cell? ⟨rb, 0, none⟩ = some (.int .i64 R.maxMsg) := (X1.out _ HV.out).top.2.cell 0
    go_wp2_with fail
    refine (bufNewW tot R.maxMsg W3 HT1.out HT2.out).mono ?_
    rintro e W4 ⟨bb, rfl, hb, m4⟩
    have X4 := Lib.hid ((X1.out W3 HV.out).bufNew (i, id) m4 hb)
    have HM4 := Lib.hid m4
    have c1 : W4.cell? ⟨rb, 1, none⟩ = some (.pointer (some ⟨ad.bt, 0, none⟩)) := X4.out.top.2.cell 1
    have c2 : W4.cell? ⟨kb, 0, none⟩ = some (.int .i64 i) := ((B1.out _ HV.out).mod m4 (fun e => e)).cell 0
    have c3 : W4.cell? ⟨kb, 1, none⟩ = some (.int .u64 id) := ((B1.out _ HV.out).mod m4 (fun e => e)).cell 1
    clear m4 hb c0
    go_wp2_with fail
    refine region_quiet_tail 6 (by kernel_rfl) (by kernel_rfl) ?_
    simp only [List.take_succ_cons, List.take_zero, List.drop_succ_cons, List.drop_zero]
    repeat (go_big_quiet_step (fail))
    refine wpQuiet_nil ?_
    intro _ hw'
    obtain ⟨nk, hw''⟩ := hw'
    subst hw''
    have HM5 := Lib.hid (HM4.out.drewN nk)
    have X5 := Lib.hid (X4.out.later ((Mod.refl NoB W4).drewN nk))
    have hs5 : (W4.drewN nk).heap.size = W4.heap.size := rfl
    have HS5 := Lib.hid hs5
    have HB5 := Lib.hid ((B1.out _ HV.out).mod HM5.out (fun e => e))
    clear c1 c2 c3 hs5
    generalize W4.drewN nk = W5 at *
    obtain ⟨t, ht1, ht2, ht3, ht4⟩ := X5.out.tabP
    have HPU := Lib.hid (TabBuf.putNewT ad.bt ad.bs R.most R.n ad.m i id bb W5 ht2 (by rw [HL.out.tab, HK.out]; rfl) HNm.out)
    have H1 := Lib.hid ht1
    have H3 := Lib.hid ht3
    have H4 := Lib.hid ht4
    clear ht1 ht2 ht3 ht4
    go_wp2_with fail
    refine HPU.out.mono ?_
    rintro e W6 ⟨rfl, bq, hbq, hT6, m6⟩
    have m6' := m6.mono (S' := t) (fun k hk e => e.elim (fun e => by rw [e]; exact H1.out.1) (fun e => by rw [e]; exact H1.out.2))
    have hx6 := H4.out bq (R.n + 1) _ W6 hbq m6' hT6
    have HM6 := Lib.hid m6'
    have c3 : W6.cell? ⟨rb, 10 + i, none⟩ = some (.int .i64 Kn) := by
      have := (hx6.top.2.cell (10 + i)).trans (recCells_known hi)
      rw [← HKn.out]
      exact this
    have f3 : W6.frozen? ⟨rb, 10 + i, none⟩ = false := hx6.top.2.free (10 + i)
    have hkt : ¬ t kb := fun e => by
      have k1 := (B1.out W3 HV.out).lt
      have k2 := HKB.out
      rcases (H3.out kb e).1 with h1 | ⟨h1, -⟩
      · have := HSZ.out kb h1; omega
      · omega
    have c4 : W6.cell? ⟨kb, 0, none⟩ = some (.int .i64 i) := (HB5.out.mod m6' hkt).cell 0
    have HF := Lib.hid (hx6.knownP hi (Kn + 1))
    have HX6 := Lib.hid hx6
    clear hT6 m6 m6' hx6 hbq hkt
    go_wp2_with fail
    go_region
    go_wp2_with fail
    go_ret2
    have z1 := HE1.out
    have z2 := HV.out.size
    have z3 := HM4.out.size
    have z4 := HS5.out
    have z5 := HM6.out.size
    have z6 : (W6.setCell ⟨rb, 10 + i, none⟩ (.int .i64 (Kn + 1))).heap.size = W6.heap.size := by simp [World.setCell]
    have hf := (HF.out.later (Mod.refl NoB _).drew).up (t := Ext s w (W6.setCell ⟨rb, 10 + i, none⟩ (.int .i64 (Kn + 1))).drew) (fun k hk => by
      have z7 : (W6.setCell ⟨rb, 10 + i, none⟩ (.int .i64 (Kn + 1))).drew.heap.size = W6.heap.size := z6
      unfold Ext at hk ⊢
      rw [z7]
      rw [z6] at hk
      rcases hk with ((hk | ⟨a, b⟩) | ⟨a, b⟩) | ⟨a, b⟩
      · exact .inl hk
      · exact .inr ⟨by omega, by omega⟩
      · exact .inr ⟨by omega, by omega⟩
      · exact .inr ⟨by omega, by omega⟩)
    refine ⟨{ ad with bs := bq, m := fun k => if k = ((i : Int), id) then some bb else ad.m k, bb := fun k' => if k' = ((i : Int), id) then bb else ad.bb k' }, ?_, (by unfold RecA.open; rw [HKn.out]; exact hf), ⟨fun k => ?_, HL.out.outc, HL.out.msr⟩, ?_⟩
    · show _ = Ending.returned (.tuple #[.pointer (some ⟨if ((i : Int), id) = ((i : Int), id) then bb else ad.bb (i, id), 0, none⟩), .int .i64 0])
      simp
    · show (if k = ((i : Int), id) then some bb else ad.m k) = (setBuf R.tab ((i : Int), id) (some (newBuf tot)) k).map (fun _ => if k = ((i : Int), id) then bb else ad.bb k)
      unfold setBuf
      split
      · rfl
      · exact HL.out.tab k
    · have k1 := (X1.out W3 HV.out).top.1.1
      have hm3 : Mod NoB w W3 := HA.out.trans HV.out (fun _ _ e => e)
      have hm5 : Mod NoB w W5 := hm3.trans HM5.out (fun _ _ e => e)
      have hm6 : Mod s w W6 := (hm5.mono (fun _ _ e => e.elim)).trans HM6.out (fun k hk e => by
        rcases (H3.out k e).1 with h1 | ⟨h1, -⟩
        · exact h1
        · have := hm3.size; omega)
      exact (hm6.setCell (p := ⟨rb, 10 + i, none⟩) (fun _ => k1) _).drew
theorem opensNew (h : RecX rb ad R w s) (hl : RLink ad R) (i : Nat) (hi : i < 8) (id : Int) (tot : Nat) (hk : R.tab (i, id) = none) (hkn : -1000000 ≤ R.known i ∧ R.known i ≤ 1000000) (hg : R.n < R.most ∧ (¬ R.most ≤ ((R.win i).2.length : Int) + R.known i ∨ (R.win i).1 = id)) (ht1 : (tot : Int) ≤ R.maxMsg) (ht2 : R.maxMsg ≤ 20000) :
    Calls Try.prog 36 #[.pointer (some ⟨rb, 0, none⟩), .agg #[.int .i64 i, .int .u64 id], .int .i64 tot] w fun e w' => ∃ ad', e = .returned (.tuple #[.pointer (some ⟨ad'.bb (i, id), 0, none⟩), .int .i64 0]) ∧ RecX rb ad' (R.open i id tot) w' (Ext s w w') ∧ RLink ad' (R.open i id tot) ∧ Mod s w w' := by
  obtain ⟨s0, hs0, h0⟩ := h.size 0
  refine (opensNew0 h0 hl i hi id tot (fun k hk => (hs0 k hk).2) hk hkn hg ht1 ht2).mono ?_
  rintro e w' ⟨ad', he, hx, hl', hm⟩
  exact ⟨ad', he, hx.up (fun k hk => hk.elim (fun e => .inl (hs0 k e).1) .inr), hl', hm.mono (fun k _ hk => (hs0 k hk).1)⟩
end
end Go.Proofs.Ytddnlbkocmpffaa
