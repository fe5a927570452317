/- peer.Receivers.Poll. -/
import Derived.Test.YtddnlbkocmpffaaZRecV
namespace Go.Proofs.Ytddnlbkocmpffaa
open Go.RowKit
set_option linter.unusedVariables false
set_option maxHeartbeats 4000000
set_option maxRecDepth 100000
section
variable {rb : Nat} {ad : RAd} {R : RecA} {w : World} {s : Nat → Prop}
/-- The first message goes, and its bytes with it. -/
theorem RecX.datPop (h : RecX rb ad R w s) {m : MsgV} {ms : List MsgV} {o : Int × Int × List Int} {out : List (Int × Int × List Int)} (hm : ad.ms = m :: ms) (ho : R.out = o :: out) :
    DatO m o w (fun k => s k ∧ k < w.heap.size) ∧ RecX rb { ad with ms := ms } { R with out := out } w (fun k => s k ∧ m.dv.ownBlock ≠ some k) := by
  obtain ⟨ow, h1, h2⟩ := h
  have hd : DatsO ad.ms R.out w (fun k => ow k = some .dat) := h1.each .dat
  rw [hm, ho] at hd
  obtain ⟨d1, d2, d3⟩ := hd
  have hd0 : DatO m o w (fun k => ow k = some .dat) := d2 (m, o) (by simp)
  refine ⟨⟨hd0.1, hd0.2.1, hd0.2.2.1, fun k hk => ⟨h2 k _ (hd0.2.2.2 k hk), h1.old k _ (hd0.2.2.2 k hk)⟩⟩, fun k => if m.dv.ownBlock = some k then none else ow k, ⟨fun j => ?_, fun k j hk => ?_⟩, fun k j hk => ?_⟩
  · have hsame : ∀ k, j ≠ .dat → ow k = some j → (if m.dv.ownBlock = some k then none else ow k) = some j := fun k hj hk => by
      by_cases e : m.dv.ownBlock = some k
      · have : ow k = some .dat := hd0.2.2.2 k e
        rw [hk] at this
        exact absurd (Option.some.inj this) hj
      · rw [if_neg e]; exact hk
    cases j with
    | dat =>
      show DatsO ms out w _
      refine ⟨by simpa using d1, fun p hp => ?_, (List.pairwise_cons.1 d3).2⟩
      obtain ⟨e1, e2, e3, e4⟩ := d2 p (by simp [hp])
      refine ⟨e1, e2, e3, fun k hk => ?_⟩
      show (if m.dv.ownBlock = some k then none else ow k) = some .dat
      rw [if_neg (fun e => (List.pairwise_cons.1 d3).1 p.1 (List.of_mem_zip hp).1 k e hk)]
      exact e4 k hk
    | top => exact (RecS.comp rb ad R .top).up _ _ _ (h1.each .top) fun k hk => hsame k (by simp) hk
    | tab => exact (RecS.comp rb ad R .tab).up _ _ _ (h1.each .tab) fun k hk => hsame k (by simp) hk
    | win i => exact (RecS.comp rb ad R (.win i)).up _ _ _ (h1.each (.win i)) fun k hk => hsame k (by simp) hk
    | buf i => exact (RecS.comp rb ad R (.buf i)).up _ _ _ (h1.each (.buf i)) fun k hk => hsame k (by simp) hk
    | out => exact (RecS.comp rb ad R .out).up _ _ _ (h1.each .out) fun k hk => hsame k (by simp) hk
  · change (if m.dv.ownBlock = some k then none else ow k) = some j at hk
    split at hk
    · cases hk
    · exact h1.old k j hk
  · change (if m.dv.ownBlock = some k then none else ow k) = some j at hk
    split at hk
    · cases hk
    · rename_i e
      exact ⟨h2 k j hk, e⟩
theorem waitingNil (w : World) : Calls Try.prog 12 #[.pointer none] w fun e w' => e = .returned (.int .i64 0) ∧ w = w' := by
  go_enter Try.func12, Try.ntmps12
  go_wp2
  go_ret
  exact ⟨rfl, rfl⟩
theorem pollNil (w : World) : Calls Try.prog 11 #[.pointer none] w fun e w' => e = .returned (.tuple #[.agg #[.int .i64 0, .int .u64 0, .slice none 0 0], .bool false]) ∧ Mod NoB w w' := by
  have HM := Lib.hid ((Mod.refl NoB w).alloc (.cells #[.int .i64 0, .int .u64 0, .slice none 0 0] 33))
  go_enter Try.func11, Try.ntmps11
  go_wp2_with fail
  refine (waitingNil _).mono ?_
  rintro e w2 ⟨rfl, rfl⟩
  go_wp2_with fail
  exact bodyPost_ret (v := .tuple #[.agg #[.int .i64 0, .int .u64 0, .slice none 0 0], .bool false]) (by simp [results, Try.results11, go_sem]) rfl ⟨rfl, HM.out⟩
theorem pollNo (h : RecX rb ad R w s) (hl : RLink ad R) (ho : R.out = []) : Calls Try.prog 11 #[.pointer (some ⟨rb, 0, none⟩)] w fun e w' => e = .returned (.tuple #[.agg #[.int .i64 0, .int .u64 0, .slice none 0 0], .bool false]) ∧ Mod NoB w w' := by
  have ha := (Mod.refl NoB w).alloc (.cells #[.int .i64 0, .int .u64 0, .slice none 0 0] 33)
  have HW := Lib.hid (waitingW (h.later ha) hl)
  rw [ho] at HW
  have HM := Lib.hid ha
  clear h hl ho
  go_enter Try.func11, Try.ntmps11
  go_wp2_with fail
  refine HW.out.mono ?_
  rintro e w2 ⟨rfl, rfl⟩
  go_wp2_with fail
  exact bodyPost_ret (v := .tuple #[.agg #[.int .i64 0, .int .u64 0, .slice none 0 0], .bool false]) (by simp [results, Try.results11, go_sem]) rfl ⟨rfl, HM.out⟩
theorem pollW0 (h : RecX rb ad R w s) (hsz : ∀ k, s k → k < w.heap.size) (hl : RLink ad R) (src id : Int) (d : List Int) (out : List (Int × Int × List Int)) (ho : R.out = (src, id, d) :: out) (hn : R.out.length ≤ 1000000) :
    Calls Try.prog 11 #[.pointer (some ⟨rb, 0, none⟩)] w fun e w' => ∃ dv, e = .returned (.tuple #[.agg #[.int .i64 src, .int .u64 id, dv], .bool true]) ∧ Own w' 0 5 1 encB dv d ∧ (∀ k, dv.ownBlock = some k → s k ∧ k < w.heap.size) ∧ RecO rb { R with out := out } w' (fun k => Ext s w w' k ∧ dv.ownBlock ≠ some k) ∧ Mod s w w' := by
  obtain ⟨p, hp⟩ : ∃ p, w.heap.size = p := ⟨_, rfl⟩
  have ha := (Mod.refl NoB w).alloc (.cells #[.int .i64 0, .int .u64 0, .slice none 0 0] 33)
  have HW := Lib.hid (waitingW (h.later ha) hl)
  have hlen := h.outs
  rw [ho] at HW hlen
  obtain ⟨m, ms, hms⟩ : ∃ m ms, ad.ms = m :: ms := by
    cases hc : ad.ms with
    | nil => rw [hc] at hlen; cases hlen
    | cons m ms => exact ⟨m, ms, rfl⟩
  obtain ⟨⟨d1, d2, d3, d4⟩, hx1⟩ := h.datPop hms ho
  dsimp only at d1 d2 d3
  obtain ⟨Ad, cd, hdv, -, -⟩ := d3.form
  obtain ⟨ndv, hnd⟩ : ∃ ndv, d.length = ndv := ⟨_, rfl⟩
  rw [hnd] at hdv
  have hem : encM m = [.int .i64 src, .int .u64 id, .slice Ad ndv cd] := by show [_, _, _] = _; rw [d1, d2, hdv]
  have hrow := h.outRow hl
  rw [hms] at hrow
  obtain ⟨g, cap, hoc, hc1, -⟩ := hrow.form1 (by simp)
  rw [hoc] at hrow
  obtain ⟨n, hnn⟩ : ∃ n, (m :: ms).length = n := ⟨_, rfl⟩
  rw [hnn] at hoc hrow hc1
  have hn1 : 1 ≤ n := by rw [← hnn]; simp
  have hnz : (n == 0) = false := by rw [beq_eq_false_iff_ne]; omega
  have hnz2 : ((n : Int) == 0) = false := by rw [beq_eq_false_iff_ne]; omega
  have hnr : R.out.length = n := by rw [← hnn, ← hms, h.outs]
  rw [show ((src, id, d) :: out).length = n by rw [← ho, hnr]] at HW
  have hb1 := Blk.new w 33 #[.int .i64 0, .int .u64 0, .slice none 0 0]
  rw [hp] at hb1
  have ha2 := ha.alloc (.cells #[.int .i64 src, .int .u64 id, .slice Ad ndv cd] 33)
  have hb2 := Blk.newAt (w := w.alloc (.cells #[.int .i64 0, .int .u64 0, .slice none 0 0] 33)) (n := p + 1) (by simp [hp]) 33 #[.int .i64 src, .int .u64 id, .slice Ad ndv cd]
  have hb1' := hb1.old (.cells #[.int .i64 src, .int .u64 id, .slice Ad ndv cd] 33)
  have e0 : ∀ j, j < 3 → (w.alloc (.cells #[.int .i64 0, .int .u64 0, .slice none 0 0] 33)).cell? ⟨g, j, none⟩ = [Value.int .i64 src, .int .u64 id, .slice Ad ndv cd][j]? := fun j hj => by
    have := (hrow.mod ha (fun _ _ e => e)).cell encM_len (i := 0) (x := m) rfl hj
    rw [Nat.zero_mul, Nat.zero_add, hem] at this
    exact this
  have g0 := e0 0 (by omega)
  have g1 := e0 1 (by omega)
  have g2 := e0 2 (by omega)
  simp only [List.getElem?_cons_zero, List.getElem?_cons_succ] at g0 g1 g2
  have c1 : (w.alloc (.cells #[.int .i64 0, .int .u64 0, .slice none 0 0] 33)).cell? ⟨rb, 19, none⟩ = some (.slice (some ⟨g, 0, none⟩) n cap) := by
    have := (h.later ha).top.2.cell 19
    rw [this, ← hoc]
    rfl
  have c2 : ((w.alloc (.cells #[.int .i64 0, .int .u64 0, .slice none 0 0] 33)).alloc (.cells #[.int .i64 src, .int .u64 id, .slice Ad ndv cd] 33)).cell? ⟨rb, 19, none⟩ = some (.slice (some ⟨g, 0, none⟩) n cap) := by
    have := (h.later ha2).top.2.cell 19
    rw [this, ← hoc]
    rfl
  have hdel := SlM.deleteW g cap n 0 1 (m :: ms) _ 0 (hrow.mod ha2 (fun _ _ e => e)) (by omega) hn1 (by rw [← hnr]; exact hn)
  rw [show ((0 : Nat) : Int) = 0 from rfl, show ((1 : Nat) : Int) = 1 from rfl] at hdel
  have hrbl := h.top.1.2
  have hgl := (hrow.lt g rfl).2
  have HX1 := Lib.hid (hx1.later ha2)
  have HDEL := Lib.hid hdel
  have HB1 := Lib.hid hb1'
  have HB2 := Lib.hid hb2
  have HA2 := Lib.hid ha2
  have HD3 := Lib.hid d3
  have HD4 := Lib.hid d4
  have HDV := Lib.hid hdv
  have HND := Lib.hid hnd
  have HL := Lib.hid hl
  have HMS := Lib.hid hms
  have HOC := Lib.hid hoc
  have HTOP := Lib.hid h.top.1
  have HPP := Lib.hid hp
  have HSZ := Lib.hid hsz
  have hgp : g ≠ p := by omega
  have hgp1 : g ≠ p + 1 := by omega
  have hrp : rb ≠ p := by omega
  have hrp1 : rb ≠ p + 1 := by omega
  clear h hl ho hn hlen hms hx1 d1 d2 d3 d4 hdv hnd hem hrow hoc hnn hnr hb1 ha2 hb2 hb1' e0 hdel ha hsz
  go_enter Try.func11, Try.ntmps11
  go_wp2_with fail
  refine HW.out.mono ?_
  rintro e w2 ⟨rfl, rfl⟩
  go_wp2_with fail
  refine HDEL.out.mono ?_
  rintro e w3 ⟨rfl, ho3, m3⟩
  obtain ⟨t8, ht8f, -, ht8, hp8⟩ := HX1.out.outP
  have hov : ad.outv = .slice (some ⟨g, 0, none⟩) n cap := by rw [← HL.out.outc]; exact HOC.out
  have ht8g : t8 g := ht8f g (by show ad.outv.ownBlock = some g; rw [hov]; rfl)
  have m3' := m3.mono (S' := t8) (fun k _ e => by rw [e]; exact ht8g)
  have hx3 := hp8 (.slice (some ⟨g, 0, none⟩) (n - (1 - 0)) cap) ms w3 m3' (fun k hk => .inl (by have : g = k := Option.some.inj hk; subst this; exact ht8g)) (by simpa using ho3)
  have f3 := hx3.top.2.free 19
  have c3 : w3.cell? ⟨rb, 19, none⟩ = some ad.outc := hx3.top.2.cell 19
  have HX4 := Lib.hid (hx3.outcP (.slice (some ⟨g, 0, none⟩) (n - (1 - 0)) cap))
  have hb13 := HB1.out.mod m3 (fun e => hgp e.symm)
  have hb23 := HB2.out.mod m3 (fun e => hgp1 e.symm)
  have HB14 := Lib.hid (hb13.setOther (a := ⟨rb, 19, none⟩) (fun e => hrp e.symm) (.slice (some ⟨g, 0, none⟩) (n - (1 - 0)) cap))
  have HB24 := Lib.hid (hb23.setOther (a := ⟨rb, 19, none⟩) (fun e => hrp1 e.symm) (.slice (some ⟨g, 0, none⟩) (n - (1 - 0)) cap))
  have HM3 := Lib.hid m3'
  have HMG := Lib.hid m3
  have HT8 := Lib.hid ht8
  have HTG := Lib.hid (ht8 g ht8g).1
  clear ht8f ht8 hp8 hov ht8g m3' hx3 hb13 hb23 ho3 m3
  go_upto_region 5 with fail
  have hz4 : (w3.setCell ⟨rb, 19, none⟩ (.slice (some ⟨g, 0, none⟩) (n - (1 - 0)) cap)).heap.size = w3.heap.size := by simp [World.setCell]
  have hm4 := (Mod.refl s w3).setCell (p := ⟨rb, 19, none⟩) (fun _ => HTOP.out.1) (.slice (some ⟨g, 0, none⟩) (n - (1 - 0)) cap)
  have hm4d := (Mod.refl (fun k => k = rb) w3).setCell (p := ⟨rb, 19, none⟩) (fun _ => rfl) (.slice (some ⟨g, 0, none⟩) (n - (1 - 0)) cap)
  have HM4 := Lib.hid hm4
  have HM4D := Lib.hid hm4d
  have HZ4 := Lib.hid hz4
  clear hm4 hz4 c3 f3 hm4d
  generalize w3.setCell ⟨rb, 19, none⟩ (.slice (some ⟨g, 0, none⟩) (n - (1 - 0)) cap) = w4 at *
  have b1 := HB14.out.cell 0
  have b2 := HB14.out.cell 1
  have b3 := HB14.out.cell 2
  have q1 := HB14.out.free 0
  have q2 := HB14.out.free 1
  have q3 := HB14.out.free 2
  have b4 : w4.cell? ⟨p + 1, 0, none⟩ = some (.int .i64 src) := HB24.out.cell 0
  have b5 : w4.cell? ⟨p + 1, 1, none⟩ = some (.int .u64 id) := HB24.out.cell 1
  have b6 : w4.cell? ⟨p + 1, 2, none⟩ = some (.slice Ad ndv cd) := HB24.out.cell 2
  have HB15 := Lib.hid (((HB14.out.set 0 (.int .i64 src)).set 1 (.int .u64 id)).set 2 (.slice Ad ndv cd))
  have hplt := HB14.out.lt
  go_wp2_with fail
  have HM5 := Lib.hid ((((Mod.refl (fun k => k = p) w4).setCell (p := ⟨p, 0, none⟩) (fun _ => rfl) (.int .i64 src)).setCell (p := ⟨p, 1, none⟩) (fun _ => rfl) (.int .u64 id)).setCell (p := ⟨p, 2, none⟩) (fun _ => rfl) (.slice Ad ndv cd))
  have HZ5 := Lib.hid (show (((w4.setCell ⟨p, 0, none⟩ (.int .i64 src)).setCell ⟨p, 1, none⟩ (.int .u64 id)).setCell ⟨p, 2, none⟩ (.slice Ad ndv cd)).heap.size = w4.heap.size by simp [World.setCell])
  clear b1 b2 b3 b4 b5 b6 q1 q2 q3
  generalize ((w4.setCell ⟨p, 0, none⟩ (.int .i64 src)).setCell ⟨p, 1, none⟩ (.int .u64 id)).setCell ⟨p, 2, none⟩ (.slice Ad ndv cd) = w5 at *
  have r1 : w5.cell? ⟨p, 0, none⟩ = some (.int .i64 src) := HB15.out.cell 0
  have r2 : w5.cell? ⟨p, 1, none⟩ = some (.int .u64 id) := HB15.out.cell 1
  have r3 : w5.cell? ⟨p, 2, none⟩ = some (.slice Ad ndv cd) := HB15.out.cell 2
  refine bodyPost_ret (v := .tuple #[.agg #[.int .i64 src, .int .u64 id, .slice Ad ndv cd], .bool true]) (by simp [results, Try.results11, go_sem, r1, r2, r3]) rfl ⟨_, rfl, ?_, ?_, ?_, ?_⟩
  · have hne : ∀ k, m.dv.ownBlock = some k → k ≠ g ∧ k ≠ rb ∧ k ≠ p := fun k hk => by
      refine ⟨fun e => ?_, fun e => ?_, fun e => ?_⟩
      · subst e; exact HTG.out.2 hk
      · subst e; exact HX1.out.top.1.1.2 hk
      · have := (HD4.out k hk).2
        have := HPP.out
        omega
    have := (((HD3.out.mod HA2.out (fun _ _ e => e)).mod HMG.out (fun k hk e => (hne k hk).1 e)).mod HM4D.out (fun k hk e => (hne k hk).2.1 e)).mod HM5.out (fun k hk e => (hne k hk).2.2 e)
    rw [HDV.out] at this
    exact this
  · rw [← HDV.out]
    exact HD4.out
  · have z2 := HA2.out.size
    have z3 := HM3.out.size
    have z4 := HZ4.out
    have z5 := HZ5.out
    have zp := HPP.out
    have zb := HB2.out.lt
    refine ⟨_, (HX4.out.keep HM5.out (fun k hk e => ?_)).up (fun k hk => ?_), ⟨HL.out.tab, rfl, rfl⟩⟩
    · subst e
      rcases hk with (hk | ⟨a, b⟩) | ⟨a, b⟩
      · have := HSZ.out _ hk.1; omega
      · omega
      · omega
    · rw [← HDV.out]
      have hlt : ∀ k, m.dv.ownBlock = some k → k < w.heap.size := fun k hk => (HD4.out k hk).2
      rcases hk with (hk | ⟨a, b⟩) | ⟨a, b⟩
      · exact ⟨.inl hk.1, hk.2⟩
      · exact ⟨.inr ⟨by omega, by omega⟩, fun e => by have := hlt k e; omega⟩
      · exact ⟨.inr ⟨by omega, by omega⟩, fun e => by have := hlt k e; omega⟩
  · have hm3 : Mod s w w3 := (HA2.out.mono (fun _ _ e => e.elim)).trans HM3.out (fun k hk e => ((HT8.out k e).1).1)
    have hm4 : Mod s w w4 := hm3.trans HM4.out (fun k hk e => e)
    exact hm4.trans HM5.out (fun k hk e => by have := HPP.out; omega)
theorem pollW (h : RecO rb R w s) (src id : Int) (d : List Int) (out : List (Int × Int × List Int)) (ho : R.out = (src, id, d) :: out) (hn : R.out.length ≤ 1000000) :
    Calls Try.prog 11 #[.pointer (some ⟨rb, 0, none⟩)] w fun e w' => ∃ dv, e = .returned (.tuple #[.agg #[.int .i64 src, .int .u64 id, dv], .bool true]) ∧ Own w' 0 5 1 encB dv d ∧ (∀ k, dv.ownBlock = some k → s k ∧ k < w.heap.size) ∧ RecO rb { R with out := out } w' (fun k => Ext s w w' k ∧ dv.ownBlock ≠ some k) ∧ Mod s w w' := by
  obtain ⟨ad, h, hl⟩ := h
  obtain ⟨s0, hs0, h0⟩ := h.size 0
  refine (pollW0 h0 (fun k hk => (hs0 k hk).2) hl src id d out ho hn).mono ?_
  rintro e w' ⟨dv, he, k1, k2, ⟨ad', k3, k4⟩, k5⟩
  exact ⟨dv, he, k1, fun k hk => ⟨(hs0 k (k2 k hk).1).1, (k2 k hk).2⟩, ⟨ad', k3.up (fun k hk => ⟨hk.1.elim (fun e => .inl (hs0 k e).1) .inr, hk.2⟩), k4⟩, k5.mono (fun k _ hk => (hs0 k hk).1)⟩
end
end Go.Proofs.Ytddnlbkocmpffaa
