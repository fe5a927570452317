/- The walk of NdpStrange. -/
import Derived.Test.YtjlooeaffbnjgaaGreatStON
import Derived.Test.YtjlooeaffbnjgaaGreatStcN
import Derived.Test.YtjlooeaffbnjgaaGreatStrI
import Derived.Test.YtjlooeaffbnjgaaGreatRefN
import Derived.Deep.RegionHeld3
namespace Go.Proofs.YtjlooeaffbnjgaaGreat
open Go.RowKit
open Go.Proofs.YtjlooeaffbnjgaaGreat.Ev (St)
set_option linter.unusedVariables false
set_option linter.unusedSimpArgs false
set_option maxHeartbeats 4000000
set_option maxRecDepth 100000
/-- What is known in the loop and behind it. -/
structure RunN (B cb T H0 H1 C0 C1 : Nat) (S : St) (q : Ids) (w wr : World) : Prop where
  two : TwoAt B S q ⟨T, H0, H1, C0, C1⟩ wr
  md : Mod (fun z => B ≤ z) w wr
  cfg : Blk wr cb 27 #[.int .i64 2, .int .i64 2, .int .i64 1, .int .i64 120, .int .i64 5, .int .i64 2, .int .i64 0, .int .i64 100000, .int .i64 10, .int .i64 6, .int .i64 10, .int .i64 20, .int .i64 0, .int .u64 1000]
  lt : cb < B
  bw : w.heap.size ≤ B
theorem RunN.step {B cb T H0 H1 C0 C1 : Nat} {S S' : St} {q : Ids} {w wr w' : World} (h : RunN B cb T H0 H1 C0 C1 S q w wr) (t : TwoAt B S' q ⟨T, H0, H1, C0, C1⟩ w') (m : Mod (fun z => B ≤ z) wr w') : RunN B cb T H0 H1 C0 C1 S' q w w' :=
  ⟨t, h.md.trans m (fun _ _ e => e), h.cfg.mod m (fun e => absurd h.lt (by omega)), h.lt, h.bw⟩
theorem RunN.later {B cb T H0 H1 C0 C1 : Nat} {S : St} {q : Ids} {w wr w' : World} (h : RunN B cb T H0 H1 C0 C1 S q w wr) (m : Mod (fun _ => False) wr w') : RunN B cb T H0 H1 C0 C1 S q w w' :=
  h.step (h.two.later m) (m.mono fun _ _ e => e.elim)
theorem RunN.all {B cb T H0 H1 C0 C1 : Nat} {S : St} {q : Ids} {w wr : World} (h : RunN B cb T H0 H1 C0 C1 S q w wr) : wr.cell? ⟨T, 0, none⟩ = some (.pointer (some ⟨H0, 0, none⟩)) ∧ wr.cell? ⟨T, 1, none⟩ = some (.pointer (some ⟨H1, 0, none⟩)) ∧ wr.cell? ⟨H0, 0, none⟩ = some (.pointer (some ⟨C0, 0, none⟩)) ∧ wr.cell? ⟨H1, 0, none⟩ = some (.pointer (some ⟨C1, 0, none⟩)) ∧ wr.cell? ⟨cb, 0, none⟩ = some (.int .i64 2) ∧ wr.cell? ⟨cb, 1, none⟩ = some (.int .i64 2) ∧ wr.cell? ⟨cb, 2, none⟩ = some (.int .i64 1) ∧ wr.cell? ⟨cb, 3, none⟩ = some (.int .i64 120) ∧ wr.cell? ⟨cb, 4, none⟩ = some (.int .i64 5) ∧ wr.cell? ⟨cb, 5, none⟩ = some (.int .i64 2) ∧ wr.cell? ⟨cb, 6, none⟩ = some (.int .i64 0) ∧ wr.cell? ⟨cb, 7, none⟩ = some (.int .i64 100000) ∧ wr.cell? ⟨cb, 8, none⟩ = some (.int .i64 10) ∧ wr.cell? ⟨cb, 9, none⟩ = some (.int .i64 6) ∧ wr.cell? ⟨cb, 10, none⟩ = some (.int .i64 10) ∧ wr.cell? ⟨cb, 11, none⟩ = some (.int .i64 20) ∧ wr.cell? ⟨cb, 12, none⟩ = some (.int .i64 0) ∧ wr.cell? ⟨cb, 13, none⟩ = some (.int .u64 1000) := by
  have c := h.two.cells
  exact ⟨c.t0, c.t1, c.h0, c.h1, by rw [h.cfg.cell]; rfl, by rw [h.cfg.cell]; rfl, by rw [h.cfg.cell]; rfl, by rw [h.cfg.cell]; rfl, by rw [h.cfg.cell]; rfl, by rw [h.cfg.cell]; rfl, by rw [h.cfg.cell]; rfl, by rw [h.cfg.cell]; rfl, by rw [h.cfg.cell]; rfl, by rw [h.cfg.cell]; rfl, by rw [h.cfg.cell]; rfl, by rw [h.cfg.cell]; rfl, by rw [h.cfg.cell]; rfl, by rw [h.cfg.cell]; rfl⟩
theorem RunN.fin {B cb T H0 H1 C0 C1 : Nat} {S : St} {q : Ids} {w wr w' : World} (h : RunN B cb T H0 H1 C0 C1 S q w wr) (m : Mod (fun _ => False) wr w') : Below w.heap.size w w' :=
  ((h.md.trans (m.mono (S' := fun z => B ≤ z) fun _ _ e => e.elim) (fun _ _ e => e)).mono (S' := fun _ => False) fun k hk e => by have := h.bw; omega).below
theorem walk_ndpStrange (w : World) (v : Value) {fs : List FrV} (hl : Has w w.heap.size 10 encFr v fs ∧ fs.length ≤ 9223372036854775807) :
    Calls Tryz.prog 6 #[v] w fun e w' => e = .returned (.bool true) ∧ Below w.heap.size w w' := by
  obtain ⟨hh, hlen⟩ := hl
  obtain ⟨A, cap, rfl, hcap⟩ := hh.form
  have HH := Lib.hid hh
  have HAW := Lib.hid awakeN
  obtain ⟨n, hnn⟩ : ∃ n, fs.length = n := ⟨_, rfl⟩
  have HN := Lib.hid hnn
  rw [hnn] at hlen hcap ⊢
  clear hh hnn
  by_cases hbig : 40 < n
  · have hz : (40 : Int) < (n : Int) := by omega
    go_enter Tryz.func6, Tryz.ntmps6
    go_wp2_with fail
    refine (HAW.out _).mono ?_
    rintro e w1 ⟨rfl, m1⟩
    have HM := Lib.hid m1
    clear m1
    go_wp2_with fail
    go_ret
    exact ⟨rfl, HM.out.below⟩
  · have hz : ¬ (40 : Int) < (n : Int) := by omega
    obtain ⟨q, num, S1, S2, S3, S4, S5, S6, S7, S8, S9, P⟩ := saysN
    have HP := Lib.hid P
    have HC := Lib.hid configN
    clear P
    go_enter Tryz.func6, Tryz.ntmps6
    go_wp2_with fail
    refine (HC.out _).mono ?_
    rintro e w1 ⟨rfl, m1⟩
    have HM1 := Lib.hid m1
    clear m1
    go_upto_region 4 with fail
    have hb0 := Blk.new w1 27 #[.int .i64 2, .int .i64 2, .int .i64 1, .int .i64 120, .int .i64 5, .int .i64 2, .int .i64 0, .int .i64 100000, .int .i64 10, .int .i64 6, .int .i64 10, .int .i64 20, .int .i64 0, .int .u64 1000]
    have hm2 := HM1.out.alloc (.cells #[.int .i64 2, .int .i64 2, .int .i64 1, .int .i64 120, .int .i64 5, .int .i64 2, .int .i64 0, .int .i64 100000, .int .i64 10, .int .i64 6, .int .i64 10, .int .i64 20, .int .i64 0, .int .u64 1000] 27)
    obtain ⟨W0, hW0⟩ : ∃ W0, w1.alloc (.cells #[.int .i64 2, .int .i64 2, .int .i64 1, .int .i64 120, .int .i64 5, .int .i64 2, .int .i64 0, .int .i64 100000, .int .i64 10, .int .i64 6, .int .i64 10, .int .i64 20, .int .i64 0, .int .u64 1000] 27) = W0 := ⟨_, rfl⟩
    obtain ⟨cb, hcb⟩ : ∃ cb, w1.heap.size = cb := ⟨_, rfl⟩
    rw [hW0] at hb0 hm2 ⊢
    rw [hcb] at hb0 ⊢
    have HB0 := Lib.hid hb0
    have HM2 := Lib.hid hm2
    have z0 : W0.cell? ⟨cb, 0, none⟩ = some (.int .i64 2) := by rw [hb0.cell]; rfl
    have z1 : W0.cell? ⟨cb, 1, none⟩ = some (.int .i64 2) := by rw [hb0.cell]; rfl
    have z2 : W0.cell? ⟨cb, 2, none⟩ = some (.int .i64 1) := by rw [hb0.cell]; rfl
    have z3 : W0.cell? ⟨cb, 3, none⟩ = some (.int .i64 120) := by rw [hb0.cell]; rfl
    have z4 : W0.cell? ⟨cb, 4, none⟩ = some (.int .i64 5) := by rw [hb0.cell]; rfl
    have z5 : W0.cell? ⟨cb, 5, none⟩ = some (.int .i64 2) := by rw [hb0.cell]; rfl
    have z6 : W0.cell? ⟨cb, 6, none⟩ = some (.int .i64 0) := by rw [hb0.cell]; rfl
    have z7 : W0.cell? ⟨cb, 7, none⟩ = some (.int .i64 100000) := by rw [hb0.cell]; rfl
    have z8 : W0.cell? ⟨cb, 8, none⟩ = some (.int .i64 10) := by rw [hb0.cell]; rfl
    have z9 : W0.cell? ⟨cb, 9, none⟩ = some (.int .i64 6) := by rw [hb0.cell]; rfl
    have z10 : W0.cell? ⟨cb, 10, none⟩ = some (.int .i64 10) := by rw [hb0.cell]; rfl
    have z11 : W0.cell? ⟨cb, 11, none⟩ = some (.int .i64 20) := by rw [hb0.cell]; rfl
    have z12 : W0.cell? ⟨cb, 12, none⟩ = some (.int .i64 0) := by rw [hb0.cell]; rfl
    have z13 : W0.cell? ⟨cb, 13, none⟩ = some (.int .u64 1000) := by rw [hb0.cell]; rfl
    clear hb0 hm2 hW0 hcb
    go_wp2_with fail
    refine (HP.out.c1 _).mono ?_
    rintro e w4 ⟨⟨T, H0, H1, C0, C1⟩, rfl, tw, m4⟩
    have hR4 : RunN W0.heap.size cb T H0 H1 C0 C1 S1 q w w4 := ⟨tw, (HM2.out.trans m4 (fun _ _ e => e)).mono (fun _ _ e => e.elim), HB0.out.mod m4 (fun e => e), HB0.out.lt, HM2.out.size⟩
    clear tw m4 z0 z1 z2 z3 z4 z5 z6 z7 z8 z9 z10 z11 z12 z13 HB0 HM2 HM1
    generalize W0.heap.size = B at *
    have y0 : w4.cell? ⟨cb, 0, none⟩ = some (.int .i64 2) := by rw [hR4.cfg.cell]; rfl
    have y1 : w4.cell? ⟨cb, 1, none⟩ = some (.int .i64 2) := by rw [hR4.cfg.cell]; rfl
    have y2 : w4.cell? ⟨cb, 2, none⟩ = some (.int .i64 1) := by rw [hR4.cfg.cell]; rfl
    have y3 : w4.cell? ⟨cb, 3, none⟩ = some (.int .i64 120) := by rw [hR4.cfg.cell]; rfl
    have y4 : w4.cell? ⟨cb, 4, none⟩ = some (.int .i64 5) := by rw [hR4.cfg.cell]; rfl
    have y5 : w4.cell? ⟨cb, 5, none⟩ = some (.int .i64 2) := by rw [hR4.cfg.cell]; rfl
    have y6 : w4.cell? ⟨cb, 6, none⟩ = some (.int .i64 0) := by rw [hR4.cfg.cell]; rfl
    have y7 : w4.cell? ⟨cb, 7, none⟩ = some (.int .i64 100000) := by rw [hR4.cfg.cell]; rfl
    have y8 : w4.cell? ⟨cb, 8, none⟩ = some (.int .i64 10) := by rw [hR4.cfg.cell]; rfl
    have y9 : w4.cell? ⟨cb, 9, none⟩ = some (.int .i64 6) := by rw [hR4.cfg.cell]; rfl
    have y10 : w4.cell? ⟨cb, 10, none⟩ = some (.int .i64 10) := by rw [hR4.cfg.cell]; rfl
    have y11 : w4.cell? ⟨cb, 11, none⟩ = some (.int .i64 20) := by rw [hR4.cfg.cell]; rfl
    have y12 : w4.cell? ⟨cb, 12, none⟩ = some (.int .i64 0) := by rw [hR4.cfg.cell]; rfl
    have y13 : w4.cell? ⟨cb, 13, none⟩ = some (.int .u64 1000) := by rw [hR4.cfg.cell]; rfl
    have HR4 := Lib.hid hR4
    clear hR4
    dsimp only
    go_wp2_with fail
    refine (HP.out.c2 B ⟨T, H0, H1, C0, C1⟩ _ HR4.out.two).mono ?_
    rintro e w5 ⟨rfl, tw5, m5⟩
    have HR5 := Lib.hid (HR4.out.step tw5 m5)
    clear tw5 m5 HR4 y0 y1 y2 y3 y4 y5 y6 y7 y8 y9 y10 y11 y12 y13
    go_wp2_with fail
    go_loopw [6] (fun i wr => ∃ kk : Nat, i = .int .i64 kk ∧ kk ≤ n ∧ Hid (RunN B cb T H0 H1 C0 C1 S2 q w wr)) (fun i _ => n - (intOf i).toNat)
    case atStart => exact ⟨0, rfl, by omega, HR5⟩
    case round =>
      obtain ⟨kk, rfl, hkk, hrel⟩ := hrel
      by_cases hkn : kk < n
      · have hkz : (kk : Int) < (n : Int) := by omega
        have hkz0 : (0 : Int) ≤ (kk : Int) := by omega
        have hkx : kk < fs.length := by rw [HN.out]; exact hkn
        have hx? := List.getElem?_eq_getElem hkx
        obtain ⟨g, off, rfl, hg, c0⟩ := HH.out.at_ encFr_len hx?
        generalize fs[kk]'hkx = fr at *
        obtain ⟨k, s, d, p, m, o, l, tt, nn, fA, fn, fc⟩ := fr
        have hgB : ¬ B ≤ g := by have := hrel.out.bw; omega
        have hgw : g < wr.heap.size := Nat.lt_of_lt_of_le hg hrel.out.md.size
        have f0 : wr.cell? ⟨g, off + kk * 10, none⟩ = some (.int .i64 k) := by
          have := (hrel.out.md.cell (p := ⟨g, off + (kk * 10 + 0), none⟩) hg hgB).trans (c0 0 (by omega))
          rw [← Nat.add_assoc] at this
          exact this
        have f1 : wr.cell? ⟨g, off + kk * 10 + 1, none⟩ = some (.int .i64 s) := by
          have := (hrel.out.md.cell (p := ⟨g, off + (kk * 10 + 1), none⟩) hg hgB).trans (c0 1 (by omega))
          rw [← Nat.add_assoc] at this
          exact this
        have f2 : wr.cell? ⟨g, off + kk * 10 + 2, none⟩ = some (.int .i64 d) := by
          have := (hrel.out.md.cell (p := ⟨g, off + (kk * 10 + 2), none⟩) hg hgB).trans (c0 2 (by omega))
          rw [← Nat.add_assoc] at this
          exact this
        have f3 : wr.cell? ⟨g, off + kk * 10 + 3, none⟩ = some (.int .i64 p) := by
          have := (hrel.out.md.cell (p := ⟨g, off + (kk * 10 + 3), none⟩) hg hgB).trans (c0 3 (by omega))
          rw [← Nat.add_assoc] at this
          exact this
        have f4 : wr.cell? ⟨g, off + kk * 10 + 4, none⟩ = some (.int .u64 m) := by
          have := (hrel.out.md.cell (p := ⟨g, off + (kk * 10 + 4), none⟩) hg hgB).trans (c0 4 (by omega))
          rw [← Nat.add_assoc] at this
          exact this
        have f5 : wr.cell? ⟨g, off + kk * 10 + 5, none⟩ = some (.int .i64 o) := by
          have := (hrel.out.md.cell (p := ⟨g, off + (kk * 10 + 5), none⟩) hg hgB).trans (c0 5 (by omega))
          rw [← Nat.add_assoc] at this
          exact this
        have f6 : wr.cell? ⟨g, off + kk * 10 + 6, none⟩ = some (.int .i64 l) := by
          have := (hrel.out.md.cell (p := ⟨g, off + (kk * 10 + 6), none⟩) hg hgB).trans (c0 6 (by omega))
          rw [← Nat.add_assoc] at this
          exact this
        have f7 : wr.cell? ⟨g, off + kk * 10 + 7, none⟩ = some (.int .i64 tt) := by
          have := (hrel.out.md.cell (p := ⟨g, off + (kk * 10 + 7), none⟩) hg hgB).trans (c0 7 (by omega))
          rw [← Nat.add_assoc] at this
          exact this
        have f8 : wr.cell? ⟨g, off + kk * 10 + 8, none⟩ = some (.int .i64 nn) := by
          have := (hrel.out.md.cell (p := ⟨g, off + (kk * 10 + 8), none⟩) hg hgB).trans (c0 8 (by omega))
          rw [← Nat.add_assoc] at this
          exact this
        have f9 : wr.cell? ⟨g, off + kk * 10 + 9, none⟩ = some (.slice fA fn fc) := by
          have := (hrel.out.md.cell (p := ⟨g, off + (kk * 10 + 9), none⟩) hg hgB).trans (c0 9 (by omega))
          rw [← Nat.add_assoc] at this
          exact this
        clear c0 hx? hkx
        by_cases hlong : 2000 < fn
        · have hlz : (2000 : Int) < (fn : Int) := by omega
          go_wp2_with fail
          refine (HAW.out _).mono ?_
          rintro e w6 ⟨rfl, m6⟩
          have HF := Lib.hid (hrel.out.fin m6)
          clear m6
          go_wp2_with fail
          go_ret
          exact ⟨rfl, HF.out⟩
        · have hlz : ¬ (2000 : Int) < (fn : Int) := by omega
          by_cases hok : FrmOk k s d p m o l tt nn fn
          · have HRC := Lib.hid (fun W => refCheckOk hok fA fc W)
            by_cases hd : d = 1
            · by_cases hs : s = 0
              · subst hd hs
                clear hok
                go_wp2_with fail
                refine (HRC.out _).mono ?_
                rintro e w6 ⟨rfl, m6⟩
                have h0 : w6.cell? ⟨g, off + kk * 10, none⟩ = some (.int .i64 k) := (m6.cell (p := ⟨g, off + kk * 10, none⟩) hgw (fun e => e)).trans f0
                have h1 : w6.cell? ⟨g, off + kk * 10 + 1, none⟩ = some (.int .i64 0) := (m6.cell (p := ⟨g, off + kk * 10 + 1, none⟩) hgw (fun e => e)).trans f1
                have h2 : w6.cell? ⟨g, off + kk * 10 + 2, none⟩ = some (.int .i64 1) := (m6.cell (p := ⟨g, off + kk * 10 + 2, none⟩) hgw (fun e => e)).trans f2
                have h3 : w6.cell? ⟨g, off + kk * 10 + 3, none⟩ = some (.int .i64 p) := (m6.cell (p := ⟨g, off + kk * 10 + 3, none⟩) hgw (fun e => e)).trans f3
                have h4 : w6.cell? ⟨g, off + kk * 10 + 4, none⟩ = some (.int .u64 m) := (m6.cell (p := ⟨g, off + kk * 10 + 4, none⟩) hgw (fun e => e)).trans f4
                have h5 : w6.cell? ⟨g, off + kk * 10 + 5, none⟩ = some (.int .i64 o) := (m6.cell (p := ⟨g, off + kk * 10 + 5, none⟩) hgw (fun e => e)).trans f5
                have h6 : w6.cell? ⟨g, off + kk * 10 + 6, none⟩ = some (.int .i64 l) := (m6.cell (p := ⟨g, off + kk * 10 + 6, none⟩) hgw (fun e => e)).trans f6
                have h7 : w6.cell? ⟨g, off + kk * 10 + 7, none⟩ = some (.int .i64 tt) := (m6.cell (p := ⟨g, off + kk * 10 + 7, none⟩) hgw (fun e => e)).trans f7
                have h8 : w6.cell? ⟨g, off + kk * 10 + 8, none⟩ = some (.int .i64 nn) := (m6.cell (p := ⟨g, off + kk * 10 + 8, none⟩) hgw (fun e => e)).trans f8
                have h9 : w6.cell? ⟨g, off + kk * 10 + 9, none⟩ = some (.slice fA fn fc) := (m6.cell (p := ⟨g, off + kk * 10 + 9, none⟩) hgw (fun e => e)).trans f9
                have HR6 := Lib.hid (hrel.out.later m6)
                clear m6
                go_wp2_with fail
                go_roundw
                case rel => exact ⟨kk + 1, by go_num, by omega, HR6⟩
                case measure => simp [intOf]; omega
              · have hsb : (s == 0) = false := by simp [hs]
                have HNO := Lib.hid (fun (W : World) (h1 : W.cell? ⟨C1, 14, none⟩ = some (.int .i64 1)) (h2 : W.cell? ⟨C1, 1, none⟩ = some (.int .i64 2)) (h3 : C1 < W.heap.size) => inRefused (cb := C1) (w := W) h1 h2 h3 (k := k) (s := s) (d := d) (p := p) (m := m) (o := o) (l := l) (t := tt) (nn := nn) (n := fn) fA fc (fun e => hs e.2.2))
                subst hd
                clear hok
                go_wp2_with fail
                refine (HRC.out _).mono ?_
                rintro e w6 ⟨rfl, m6⟩
                have h0 : w6.cell? ⟨g, off + kk * 10, none⟩ = some (.int .i64 k) := (m6.cell (p := ⟨g, off + kk * 10, none⟩) hgw (fun e => e)).trans f0
                have h1 : w6.cell? ⟨g, off + kk * 10 + 1, none⟩ = some (.int .i64 s) := (m6.cell (p := ⟨g, off + kk * 10 + 1, none⟩) hgw (fun e => e)).trans f1
                have h2 : w6.cell? ⟨g, off + kk * 10 + 2, none⟩ = some (.int .i64 1) := (m6.cell (p := ⟨g, off + kk * 10 + 2, none⟩) hgw (fun e => e)).trans f2
                have h3 : w6.cell? ⟨g, off + kk * 10 + 3, none⟩ = some (.int .i64 p) := (m6.cell (p := ⟨g, off + kk * 10 + 3, none⟩) hgw (fun e => e)).trans f3
                have h4 : w6.cell? ⟨g, off + kk * 10 + 4, none⟩ = some (.int .u64 m) := (m6.cell (p := ⟨g, off + kk * 10 + 4, none⟩) hgw (fun e => e)).trans f4
                have h5 : w6.cell? ⟨g, off + kk * 10 + 5, none⟩ = some (.int .i64 o) := (m6.cell (p := ⟨g, off + kk * 10 + 5, none⟩) hgw (fun e => e)).trans f5
                have h6 : w6.cell? ⟨g, off + kk * 10 + 6, none⟩ = some (.int .i64 l) := (m6.cell (p := ⟨g, off + kk * 10 + 6, none⟩) hgw (fun e => e)).trans f6
                have h7 : w6.cell? ⟨g, off + kk * 10 + 7, none⟩ = some (.int .i64 tt) := (m6.cell (p := ⟨g, off + kk * 10 + 7, none⟩) hgw (fun e => e)).trans f7
                have h8 : w6.cell? ⟨g, off + kk * 10 + 8, none⟩ = some (.int .i64 nn) := (m6.cell (p := ⟨g, off + kk * 10 + 8, none⟩) hgw (fun e => e)).trans f8
                have h9 : w6.cell? ⟨g, off + kk * 10 + 9, none⟩ = some (.slice fA fn fc) := (m6.cell (p := ⟨g, off + kk * 10 + 9, none⟩) hgw (fun e => e)).trans f9
                have HR6 := Lib.hid (hrel.out.later m6)
                obtain ⟨a1, a2, a3, a4, -⟩ := HR6.out.all
                have hgw6 : g < w6.heap.size := Nat.lt_of_lt_of_le hgw m6.size
                clear m6
                go_upto_region 13 with fail
                have HTC := Lib.hid HR6.out.two.cells
                have b1 : ∀ x : Later w6, x.world.cell? ⟨T, 1, none⟩ = some (.pointer (some ⟨H1, 0, none⟩)) := fun x => (x.mod.cell (p := ⟨T, 1, none⟩) HTC.out.tl (fun e => e)).trans a2
                have b2 : ∀ x : Later w6, x.world.cell? ⟨H1, 0, none⟩ = some (.pointer (some ⟨C1, 0, none⟩)) := fun x => (x.mod.cell (p := ⟨H1, 0, none⟩) HTC.out.h1l (fun e => e)).trans a4
                have g0 : ∀ x : Later w6, x.world.cell? ⟨g, off + kk * 10, none⟩ = some (.int .i64 k) := fun x => (x.mod.cell (p := ⟨g, off + kk * 10, none⟩) hgw6 (fun e => e)).trans h0
                have g1 : ∀ x : Later w6, x.world.cell? ⟨g, off + kk * 10 + 1, none⟩ = some (.int .i64 s) := fun x => (x.mod.cell (p := ⟨g, off + kk * 10 + 1, none⟩) hgw6 (fun e => e)).trans h1
                have g2 : ∀ x : Later w6, x.world.cell? ⟨g, off + kk * 10 + 2, none⟩ = some (.int .i64 1) := fun x => (x.mod.cell (p := ⟨g, off + kk * 10 + 2, none⟩) hgw6 (fun e => e)).trans h2
                have g3 : ∀ x : Later w6, x.world.cell? ⟨g, off + kk * 10 + 3, none⟩ = some (.int .i64 p) := fun x => (x.mod.cell (p := ⟨g, off + kk * 10 + 3, none⟩) hgw6 (fun e => e)).trans h3
                have g4 : ∀ x : Later w6, x.world.cell? ⟨g, off + kk * 10 + 4, none⟩ = some (.int .u64 m) := fun x => (x.mod.cell (p := ⟨g, off + kk * 10 + 4, none⟩) hgw6 (fun e => e)).trans h4
                have g5 : ∀ x : Later w6, x.world.cell? ⟨g, off + kk * 10 + 5, none⟩ = some (.int .i64 o) := fun x => (x.mod.cell (p := ⟨g, off + kk * 10 + 5, none⟩) hgw6 (fun e => e)).trans h5
                have g6 : ∀ x : Later w6, x.world.cell? ⟨g, off + kk * 10 + 6, none⟩ = some (.int .i64 l) := fun x => (x.mod.cell (p := ⟨g, off + kk * 10 + 6, none⟩) hgw6 (fun e => e)).trans h6
                have g7 : ∀ x : Later w6, x.world.cell? ⟨g, off + kk * 10 + 7, none⟩ = some (.int .i64 tt) := fun x => (x.mod.cell (p := ⟨g, off + kk * 10 + 7, none⟩) hgw6 (fun e => e)).trans h7
                have g8 : ∀ x : Later w6, x.world.cell? ⟨g, off + kk * 10 + 8, none⟩ = some (.int .i64 nn) := fun x => (x.mod.cell (p := ⟨g, off + kk * 10 + 8, none⟩) hgw6 (fun e => e)).trans h8
                have g9 : ∀ x : Later w6, x.world.cell? ⟨g, off + kk * 10 + 9, none⟩ = some (.slice fA fn fc) := fun x => (x.mod.cell (p := ⟨g, off + kk * 10 + 9, none⟩) hgw6 (fun e => e)).trans h9
                have HIN := Lib.hid (fun x : Later w6 => HNO.out x.world ((x.mod.cell (p := ⟨C1, 14, none⟩) HTC.out.c1l (fun e => e)).trans HTC.out.me) ((x.mod.cell (p := ⟨C1, 1, none⟩) HTC.out.c1l (fun e => e)).trans HTC.out.hosts) (Nat.lt_of_lt_of_le HTC.out.c1l x.mod.size))
                clear a1 a2 a3 a4 f0 h0 f1 h1 f2 h2 f3 h3 f4 h4 f5 h5 f6 h6 f7 h7 f8 h8 f9 h9
                refine region_later (by kernel_rfl) (by kernel_rfl) ?_
                repeat (go_big_quiet_step ((go_at_call 33; exact later_call (HIN.out _))))
                refine wpQuiet_nil ?_
                intro _ hw'
                obtain ⟨y, hw''⟩ := hw'
                subst hw''
                have HR7 := Lib.hid (HR6.out.later y.mod)
                clear b1 b2 g0 g1 g2 g3 g4 g5 g6 g7 g8 g9 HIN
                generalize y.world = W1 at *
                go_wp2_with fail
                go_roundw
                case rel => exact ⟨kk + 1, by go_num, by omega, HR7⟩
                case measure => simp [intOf]; omega
            · have hdb : (d == 1) = false := by simp [hd]
              have HNO := Lib.hid (fun (W : World) (h1 : W.cell? ⟨C1, 14, none⟩ = some (.int .i64 1)) (h2 : W.cell? ⟨C1, 1, none⟩ = some (.int .i64 2)) (h3 : C1 < W.heap.size) => inRefused (cb := C1) (w := W) h1 h2 h3 (k := k) (s := s) (d := d) (p := p) (m := m) (o := o) (l := l) (t := tt) (nn := nn) (n := fn) fA fc (fun e => hd e.2.1))
              clear hok hd
              go_wp2_with fail
              refine (HRC.out _).mono ?_
              rintro e w6 ⟨rfl, m6⟩
              have h0 : w6.cell? ⟨g, off + kk * 10, none⟩ = some (.int .i64 k) := (m6.cell (p := ⟨g, off + kk * 10, none⟩) hgw (fun e => e)).trans f0
              have h1 : w6.cell? ⟨g, off + kk * 10 + 1, none⟩ = some (.int .i64 s) := (m6.cell (p := ⟨g, off + kk * 10 + 1, none⟩) hgw (fun e => e)).trans f1
              have h2 : w6.cell? ⟨g, off + kk * 10 + 2, none⟩ = some (.int .i64 d) := (m6.cell (p := ⟨g, off + kk * 10 + 2, none⟩) hgw (fun e => e)).trans f2
              have h3 : w6.cell? ⟨g, off + kk * 10 + 3, none⟩ = some (.int .i64 p) := (m6.cell (p := ⟨g, off + kk * 10 + 3, none⟩) hgw (fun e => e)).trans f3
              have h4 : w6.cell? ⟨g, off + kk * 10 + 4, none⟩ = some (.int .u64 m) := (m6.cell (p := ⟨g, off + kk * 10 + 4, none⟩) hgw (fun e => e)).trans f4
              have h5 : w6.cell? ⟨g, off + kk * 10 + 5, none⟩ = some (.int .i64 o) := (m6.cell (p := ⟨g, off + kk * 10 + 5, none⟩) hgw (fun e => e)).trans f5
              have h6 : w6.cell? ⟨g, off + kk * 10 + 6, none⟩ = some (.int .i64 l) := (m6.cell (p := ⟨g, off + kk * 10 + 6, none⟩) hgw (fun e => e)).trans f6
              have h7 : w6.cell? ⟨g, off + kk * 10 + 7, none⟩ = some (.int .i64 tt) := (m6.cell (p := ⟨g, off + kk * 10 + 7, none⟩) hgw (fun e => e)).trans f7
              have h8 : w6.cell? ⟨g, off + kk * 10 + 8, none⟩ = some (.int .i64 nn) := (m6.cell (p := ⟨g, off + kk * 10 + 8, none⟩) hgw (fun e => e)).trans f8
              have h9 : w6.cell? ⟨g, off + kk * 10 + 9, none⟩ = some (.slice fA fn fc) := (m6.cell (p := ⟨g, off + kk * 10 + 9, none⟩) hgw (fun e => e)).trans f9
              have HR6 := Lib.hid (hrel.out.later m6)
              obtain ⟨a1, a2, a3, a4, -⟩ := HR6.out.all
              have hgw6 : g < w6.heap.size := Nat.lt_of_lt_of_le hgw m6.size
              clear m6
              go_upto_region 13 with fail
              have HTC := Lib.hid HR6.out.two.cells
              have b1 : ∀ x : Later w6, x.world.cell? ⟨T, 1, none⟩ = some (.pointer (some ⟨H1, 0, none⟩)) := fun x => (x.mod.cell (p := ⟨T, 1, none⟩) HTC.out.tl (fun e => e)).trans a2
              have b2 : ∀ x : Later w6, x.world.cell? ⟨H1, 0, none⟩ = some (.pointer (some ⟨C1, 0, none⟩)) := fun x => (x.mod.cell (p := ⟨H1, 0, none⟩) HTC.out.h1l (fun e => e)).trans a4
              have g0 : ∀ x : Later w6, x.world.cell? ⟨g, off + kk * 10, none⟩ = some (.int .i64 k) := fun x => (x.mod.cell (p := ⟨g, off + kk * 10, none⟩) hgw6 (fun e => e)).trans h0
              have g1 : ∀ x : Later w6, x.world.cell? ⟨g, off + kk * 10 + 1, none⟩ = some (.int .i64 s) := fun x => (x.mod.cell (p := ⟨g, off + kk * 10 + 1, none⟩) hgw6 (fun e => e)).trans h1
              have g2 : ∀ x : Later w6, x.world.cell? ⟨g, off + kk * 10 + 2, none⟩ = some (.int .i64 d) := fun x => (x.mod.cell (p := ⟨g, off + kk * 10 + 2, none⟩) hgw6 (fun e => e)).trans h2
              have g3 : ∀ x : Later w6, x.world.cell? ⟨g, off + kk * 10 + 3, none⟩ = some (.int .i64 p) := fun x => (x.mod.cell (p := ⟨g, off + kk * 10 + 3, none⟩) hgw6 (fun e => e)).trans h3
              have g4 : ∀ x : Later w6, x.world.cell? ⟨g, off + kk * 10 + 4, none⟩ = some (.int .u64 m) := fun x => (x.mod.cell (p := ⟨g, off + kk * 10 + 4, none⟩) hgw6 (fun e => e)).trans h4
              have g5 : ∀ x : Later w6, x.world.cell? ⟨g, off + kk * 10 + 5, none⟩ = some (.int .i64 o) := fun x => (x.mod.cell (p := ⟨g, off + kk * 10 + 5, none⟩) hgw6 (fun e => e)).trans h5
              have g6 : ∀ x : Later w6, x.world.cell? ⟨g, off + kk * 10 + 6, none⟩ = some (.int .i64 l) := fun x => (x.mod.cell (p := ⟨g, off + kk * 10 + 6, none⟩) hgw6 (fun e => e)).trans h6
              have g7 : ∀ x : Later w6, x.world.cell? ⟨g, off + kk * 10 + 7, none⟩ = some (.int .i64 tt) := fun x => (x.mod.cell (p := ⟨g, off + kk * 10 + 7, none⟩) hgw6 (fun e => e)).trans h7
              have g8 : ∀ x : Later w6, x.world.cell? ⟨g, off + kk * 10 + 8, none⟩ = some (.int .i64 nn) := fun x => (x.mod.cell (p := ⟨g, off + kk * 10 + 8, none⟩) hgw6 (fun e => e)).trans h8
              have g9 : ∀ x : Later w6, x.world.cell? ⟨g, off + kk * 10 + 9, none⟩ = some (.slice fA fn fc) := fun x => (x.mod.cell (p := ⟨g, off + kk * 10 + 9, none⟩) hgw6 (fun e => e)).trans h9
              have HIN := Lib.hid (fun x : Later w6 => HNO.out x.world ((x.mod.cell (p := ⟨C1, 14, none⟩) HTC.out.c1l (fun e => e)).trans HTC.out.me) ((x.mod.cell (p := ⟨C1, 1, none⟩) HTC.out.c1l (fun e => e)).trans HTC.out.hosts) (Nat.lt_of_lt_of_le HTC.out.c1l x.mod.size))
              clear a1 a2 a3 a4 f0 h0 f1 h1 f2 h2 f3 h3 f4 h4 f5 h5 f6 h6 f7 h7 f8 h8 f9 h9
              refine region_later (by kernel_rfl) (by kernel_rfl) ?_
              repeat (go_big_quiet_step ((go_at_call 33; exact later_call (HIN.out _))))
              refine wpQuiet_nil ?_
              intro _ hw'
              obtain ⟨y, hw''⟩ := hw'
              subst hw''
              have HR7 := Lib.hid (HR6.out.later y.mod)
              clear b1 b2 g0 g1 g2 g3 g4 g5 g6 g7 g8 g9 HIN
              generalize y.world = W1 at *
              go_wp2_with fail
              go_roundw
              case rel => exact ⟨kk + 1, by go_num, by omega, HR7⟩
              case measure => simp [intOf]; omega
          · have HRC := Lib.hid (fun W => refCheckNo fA fc W hok)
            have HNO := Lib.hid (fun (W : World) (h1 : W.cell? ⟨C1, 14, none⟩ = some (.int .i64 1)) (h2 : W.cell? ⟨C1, 1, none⟩ = some (.int .i64 2)) (h3 : C1 < W.heap.size) => inRefused (cb := C1) (w := W) h1 h2 h3 (k := k) (s := s) (d := d) (p := p) (m := m) (o := o) (l := l) (t := tt) (nn := nn) (n := fn) fA fc (fun e => hok e.1))
            clear hok
            go_wp2_with fail
            refine (HRC.out _).mono ?_
            rintro e w6 ⟨rfl, m6⟩
            have h0 : w6.cell? ⟨g, off + kk * 10, none⟩ = some (.int .i64 k) := (m6.cell (p := ⟨g, off + kk * 10, none⟩) hgw (fun e => e)).trans f0
            have h1 : w6.cell? ⟨g, off + kk * 10 + 1, none⟩ = some (.int .i64 s) := (m6.cell (p := ⟨g, off + kk * 10 + 1, none⟩) hgw (fun e => e)).trans f1
            have h2 : w6.cell? ⟨g, off + kk * 10 + 2, none⟩ = some (.int .i64 d) := (m6.cell (p := ⟨g, off + kk * 10 + 2, none⟩) hgw (fun e => e)).trans f2
            have h3 : w6.cell? ⟨g, off + kk * 10 + 3, none⟩ = some (.int .i64 p) := (m6.cell (p := ⟨g, off + kk * 10 + 3, none⟩) hgw (fun e => e)).trans f3
            have h4 : w6.cell? ⟨g, off + kk * 10 + 4, none⟩ = some (.int .u64 m) := (m6.cell (p := ⟨g, off + kk * 10 + 4, none⟩) hgw (fun e => e)).trans f4
            have h5 : w6.cell? ⟨g, off + kk * 10 + 5, none⟩ = some (.int .i64 o) := (m6.cell (p := ⟨g, off + kk * 10 + 5, none⟩) hgw (fun e => e)).trans f5
            have h6 : w6.cell? ⟨g, off + kk * 10 + 6, none⟩ = some (.int .i64 l) := (m6.cell (p := ⟨g, off + kk * 10 + 6, none⟩) hgw (fun e => e)).trans f6
            have h7 : w6.cell? ⟨g, off + kk * 10 + 7, none⟩ = some (.int .i64 tt) := (m6.cell (p := ⟨g, off + kk * 10 + 7, none⟩) hgw (fun e => e)).trans f7
            have h8 : w6.cell? ⟨g, off + kk * 10 + 8, none⟩ = some (.int .i64 nn) := (m6.cell (p := ⟨g, off + kk * 10 + 8, none⟩) hgw (fun e => e)).trans f8
            have h9 : w6.cell? ⟨g, off + kk * 10 + 9, none⟩ = some (.slice fA fn fc) := (m6.cell (p := ⟨g, off + kk * 10 + 9, none⟩) hgw (fun e => e)).trans f9
            have HR6 := Lib.hid (hrel.out.later m6)
            obtain ⟨a1, a2, a3, a4, -⟩ := HR6.out.all
            have hgw6 : g < w6.heap.size := Nat.lt_of_lt_of_le hgw m6.size
            clear m6
            go_upto_region 13 with fail
            have HTC := Lib.hid HR6.out.two.cells
            have b1 : ∀ x : Later w6, x.world.cell? ⟨T, 1, none⟩ = some (.pointer (some ⟨H1, 0, none⟩)) := fun x => (x.mod.cell (p := ⟨T, 1, none⟩) HTC.out.tl (fun e => e)).trans a2
            have b2 : ∀ x : Later w6, x.world.cell? ⟨H1, 0, none⟩ = some (.pointer (some ⟨C1, 0, none⟩)) := fun x => (x.mod.cell (p := ⟨H1, 0, none⟩) HTC.out.h1l (fun e => e)).trans a4
            have g0 : ∀ x : Later w6, x.world.cell? ⟨g, off + kk * 10, none⟩ = some (.int .i64 k) := fun x => (x.mod.cell (p := ⟨g, off + kk * 10, none⟩) hgw6 (fun e => e)).trans h0
            have g1 : ∀ x : Later w6, x.world.cell? ⟨g, off + kk * 10 + 1, none⟩ = some (.int .i64 s) := fun x => (x.mod.cell (p := ⟨g, off + kk * 10 + 1, none⟩) hgw6 (fun e => e)).trans h1
            have g2 : ∀ x : Later w6, x.world.cell? ⟨g, off + kk * 10 + 2, none⟩ = some (.int .i64 d) := fun x => (x.mod.cell (p := ⟨g, off + kk * 10 + 2, none⟩) hgw6 (fun e => e)).trans h2
            have g3 : ∀ x : Later w6, x.world.cell? ⟨g, off + kk * 10 + 3, none⟩ = some (.int .i64 p) := fun x => (x.mod.cell (p := ⟨g, off + kk * 10 + 3, none⟩) hgw6 (fun e => e)).trans h3
            have g4 : ∀ x : Later w6, x.world.cell? ⟨g, off + kk * 10 + 4, none⟩ = some (.int .u64 m) := fun x => (x.mod.cell (p := ⟨g, off + kk * 10 + 4, none⟩) hgw6 (fun e => e)).trans h4
            have g5 : ∀ x : Later w6, x.world.cell? ⟨g, off + kk * 10 + 5, none⟩ = some (.int .i64 o) := fun x => (x.mod.cell (p := ⟨g, off + kk * 10 + 5, none⟩) hgw6 (fun e => e)).trans h5
            have g6 : ∀ x : Later w6, x.world.cell? ⟨g, off + kk * 10 + 6, none⟩ = some (.int .i64 l) := fun x => (x.mod.cell (p := ⟨g, off + kk * 10 + 6, none⟩) hgw6 (fun e => e)).trans h6
            have g7 : ∀ x : Later w6, x.world.cell? ⟨g, off + kk * 10 + 7, none⟩ = some (.int .i64 tt) := fun x => (x.mod.cell (p := ⟨g, off + kk * 10 + 7, none⟩) hgw6 (fun e => e)).trans h7
            have g8 : ∀ x : Later w6, x.world.cell? ⟨g, off + kk * 10 + 8, none⟩ = some (.int .i64 nn) := fun x => (x.mod.cell (p := ⟨g, off + kk * 10 + 8, none⟩) hgw6 (fun e => e)).trans h8
            have g9 : ∀ x : Later w6, x.world.cell? ⟨g, off + kk * 10 + 9, none⟩ = some (.slice fA fn fc) := fun x => (x.mod.cell (p := ⟨g, off + kk * 10 + 9, none⟩) hgw6 (fun e => e)).trans h9
            have HIN := Lib.hid (fun x : Later w6 => HNO.out x.world ((x.mod.cell (p := ⟨C1, 14, none⟩) HTC.out.c1l (fun e => e)).trans HTC.out.me) ((x.mod.cell (p := ⟨C1, 1, none⟩) HTC.out.c1l (fun e => e)).trans HTC.out.hosts) (Nat.lt_of_lt_of_le HTC.out.c1l x.mod.size))
            clear a1 a2 a3 a4 f0 h0 f1 h1 f2 h2 f3 h3 f4 h4 f5 h5 f6 h6 f7 h7 f8 h8 f9 h9
            refine region_later (by kernel_rfl) (by kernel_rfl) ?_
            repeat (go_big_quiet_step ((go_at_call 33; exact later_call (HIN.out _))))
            refine wpQuiet_nil ?_
            intro _ hw'
            obtain ⟨y, hw''⟩ := hw'
            subst hw''
            have HR7 := Lib.hid (HR6.out.later y.mod)
            clear b1 b2 g0 g1 g2 g3 g4 g5 g6 g7 g8 g9 HIN
            generalize y.world = W1 at *
            go_wp2_with fail
            go_roundw
            case rel => exact ⟨kk + 1, by go_num, by omega, HR7⟩
            case measure => simp [intOf]; omega
      · obtain rfl : n = kk := by omega
        have hkz : ¬ (n : Int) < (n : Int) := by omega
        have HR6 := hrel
        have ha6 := HR6.out.all
        obtain ⟨a1, a2, a3, a4, -⟩ := ha6
        clear hrel
        go_wp2_with fail
        refine (HP.out.c3 B ⟨T, H0, H1, C0, C1⟩ _ HR6.out.two).mono ?_
        rintro e w7 ⟨rfl, tw7, m7⟩
        have HR7 := Lib.hid (HR6.out.step tw7 m7)
        clear tw7 m7 HR6 a1 a2 a3 a4
        obtain ⟨a1, a2, a3, a4, -⟩ := HR7.out.all
        go_wp2_with fail
        refine (HP.out.c4 B ⟨T, H0, H1, C0, C1⟩ _ HR7.out.two).mono ?_
        rintro e w8 ⟨rfl, tw8, m8⟩
        have HR8 := Lib.hid (HR7.out.step tw8 m8)
        clear tw8 m8 HR7 a1 a2 a3 a4
        go_upto_region 16 with fail
        have hR9 := HR8.out.later ((Mod.refl (fun _ => False) w8).alloc (.cells #[.int .i64 0, .int .i64 0, .int .i64 0, .int .i64 0, .int .u64 0, .int .i64 0, .int .i64 0, .int .i64 0, .int .i64 0, .slice none 0 0] 65))
        generalize (w8.alloc (.cells #[.int .i64 0, .int .i64 0, .int .i64 0, .int .i64 0, .int .u64 0, .int .i64 0, .int .i64 0, .int .i64 0, .int .i64 0, .slice none 0 0] 65)) = W9 at *
        have HR9 := Lib.hid hR9
        have HR9d := Lib.hid (hR9.later (Mod.refl _ _).drew)
        clear hR9 HR8
        have D5 := Lib.hid (fun W (h : TwoAt B S4 q ⟨T, H0, H1, C0, C1⟩ W) => (show Calls Tryz.prog 25 #[.pointer (some ⟨C1, 0, none⟩)] W _ from HP.out.c5 B ⟨T, H0, H1, C0, C1⟩ W h))
        have D6 := Lib.hid (fun W (h : TwoAt B S5 q ⟨T, H0, H1, C0, C1⟩ W) => (show Calls Tryz.prog 22 #[.pointer (some ⟨T, 0, none⟩), cfgN] W _ from HP.out.c6 B ⟨T, H0, H1, C0, C1⟩ W h))
        have D7 := Lib.hid (fun W (h : TwoAt B S6 q ⟨T, H0, H1, C0, C1⟩ W) => (show Calls Tryz.prog 23 #[.pointer (some ⟨T, 0, none⟩), .int .i64 120, .int .i64 num] W _ from HP.out.c7 B ⟨T, H0, H1, C0, C1⟩ W h))
        have D8 := Lib.hid (fun W (h : TwoAt B S7 q ⟨T, H0, H1, C0, C1⟩ W) => (show Calls Tryz.prog 28 #[.pointer (some ⟨C0, 0, none⟩), .int .u64 1] W _ from HP.out.c8 B ⟨T, H0, H1, C0, C1⟩ W h))
        have D9 := Lib.hid (fun W (h : TwoAt B S8 q ⟨T, H0, H1, C0, C1⟩ W) => (show Calls Tryz.prog 18 #[.pointer (some ⟨T, 0, none⟩)] W _ from HP.out.c9 B ⟨T, H0, H1, C0, C1⟩ W h))
        clear HP
        go_region_held3 (fun w' => w'.cell? ⟨T, 0, none⟩ = some (.pointer (some ⟨H0, 0, none⟩)) ∧ w'.cell? ⟨T, 1, none⟩ = some (.pointer (some ⟨H1, 0, none⟩)) ∧ w'.cell? ⟨H0, 0, none⟩ = some (.pointer (some ⟨C0, 0, none⟩)) ∧ w'.cell? ⟨H1, 0, none⟩ = some (.pointer (some ⟨C1, 0, none⟩)) ∧ w'.cell? ⟨cb, 0, none⟩ = some (.int .i64 2) ∧ w'.cell? ⟨cb, 1, none⟩ = some (.int .i64 2) ∧ w'.cell? ⟨cb, 2, none⟩ = some (.int .i64 1) ∧ w'.cell? ⟨cb, 3, none⟩ = some (.int .i64 120) ∧ w'.cell? ⟨cb, 4, none⟩ = some (.int .i64 5) ∧ w'.cell? ⟨cb, 5, none⟩ = some (.int .i64 2) ∧ w'.cell? ⟨cb, 6, none⟩ = some (.int .i64 0) ∧ w'.cell? ⟨cb, 7, none⟩ = some (.int .i64 100000) ∧ w'.cell? ⟨cb, 8, none⟩ = some (.int .i64 10) ∧ w'.cell? ⟨cb, 9, none⟩ = some (.int .i64 6) ∧ w'.cell? ⟨cb, 10, none⟩ = some (.int .i64 10) ∧ w'.cell? ⟨cb, 11, none⟩ = some (.int .i64 20) ∧ w'.cell? ⟨cb, 12, none⟩ = some (.int .i64 0) ∧ w'.cell? ⟨cb, 13, none⟩ = some (.int .u64 1000)) (first | assumption | exact HR9.out.all)
          (first
            | (go_at_call 25; with_reducible refine (D5.out _ HR9d.out.two).mono ?_; rintro e wa ⟨rfl, twa, ma⟩; have HRa := Lib.hid (HR9d.out.step twa ma); have ka := HRa.out.all; clear twa ma)
            | (go_at_call 22; with_reducible refine (D6.out _ HRa.out.two).mono ?_; rintro e wb ⟨rfl, twb, mb⟩; have HRb := Lib.hid (HRa.out.step twb mb); have kb := HRb.out.all; clear twb mb)
            | (go_at_call 23; with_reducible refine (D7.out _ HRb.out.two).mono ?_; rintro e wc ⟨rfl, twc, mc⟩; have HRc := Lib.hid (HRb.out.step twc mc); have kc := HRc.out.all; clear twc mc)
            | (go_at_call 28; with_reducible refine (D8.out _ HRc.out.two).mono ?_; rintro e wd ⟨rfl, twd, md⟩; have HRd := Lib.hid (HRc.out.step twd md); have kd := HRd.out.all; clear twd md)
            | (go_at_call 18; with_reducible refine (D9.out _ HRd.out.two).mono ?_; rintro e we ⟨rfl, twe, me⟩; have HRe := Lib.hid (HRd.out.step twe me); have ke := HRe.out.all; clear twe me)
            | (go_at_call 14; with_reducible refine (HAW.out _).mono ?_; rintro e wf ⟨rfl, mf⟩; have HRf := Lib.hid (HRe.out.later mf); have kf := HRf.out.all; clear mf))
        all_goals
          go_wp2_with fail
          go_ret
          exact ⟨rfl, HRf.out.fin (Mod.refl _ _)⟩
end Go.Proofs.YtjlooeaffbnjgaaGreat
