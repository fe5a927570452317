/- ivals.Set.Add. -/
import Derived.Test.YtddnlbkocmpffaaZG4
import Derived.Deep.RegionLaw
import Derived.BigRegion
import Derived.Deep.RegionHeld3
namespace Go.Proofs.Ytddnlbkocmpffaa
open Go.RowKit
set_option linter.unusedVariables false
set_option maxHeartbeats 8000000
set_option maxRecDepth 100000
def putR (l : List (Int × Int)) (a b : Int) : List (Int × Int) := if freshR l a b = 0 then l else addR l a b
theorem putR_ok {tot a b : Int} {l : List (Int × Int)} (h : RsOk tot 0 l) (h1 : 0 ≤ a) (h2 : a ≤ b) (h3 : b ≤ tot) : RsOk tot 0 (putR l a b) ∧ ∀ x, inR (putR l a b) x ↔ (a ≤ x ∧ x < b ∨ inR l x) := by
  unfold putR
  split
  · rename_i hz
    have := (freshR_zero h h1 h2).1 hz
    refine ⟨h, fun x => ⟨fun e => .inr e, ?_⟩⟩
    rintro (e | e)
    · exact this x e.1 e.2
    · exact e
  · rename_i hz
    have hab : a < b := by
      have := freshR_pos h h1 h2
      omega
    have := addR_ok h hab h3
    rw [show min a 0 = 0 by omega] at this
    exact ⟨this.1, this.2.2⟩
/-- The set behind its run's putting in. -/
theorem addFin {w wr w5 : World} {sb B fb n cap i k : Nat} {lo hi a b tot : Int} {A : Option Addr} {v5 : Value} {l : List (Int × Int)} (h0 : SetB w B sb tot (.slice A n cap) l) (hfb : w.heap.size = fb) (m : Mod (fun z => z = fb) w wr)
    (h5 : Own w5 B 131 2 encR v5 (l.take i ++ (lo, hi) :: l.drop k)) (m5 : Mod (fun j => (Value.slice A n cap).ownBlock = some j) (wr.alloc (.cells #[.int .i64 lo, .int .i64 hi] 131)).drew w5)
    (hv : v5.ownBlock = (Value.slice A n cap).ownBlock ∨ v5.ownBlock = some (wr.alloc (.cells #[.int .i64 lo, .int .i64 hi] 131)).drew.heap.size) (he : addR l a b = l.take i ++ (lo, hi) :: l.drop k) (hok : RsOk tot 0 (addR l a b)) :
    SetB (w5.setCell ⟨sb, 1, none⟩ v5) B sb tot v5 (addR l a b) ∧ Mod (fun z => z = sb ∨ (Value.slice A n cap).ownBlock = some z) w (w5.setCell ⟨sb, 1, none⟩ v5) ∧ (v5.ownBlock = (Value.slice A n cap).ownBlock ∨ ∃ g, v5.ownBlock = some g ∧ w.heap.size ≤ g) := by
  have hsb := h0.blk.lt
  have hsz := m.size
  have hm0 : Mod (fun z => (Value.slice A n cap).ownBlock = some z) w w5 := ((m.mono (S' := fun z => (Value.slice A n cap).ownBlock = some z) (fun z hz e => by omega)).alloc _).drew.trans m5 (fun _ _ e => e)
  have hb5 := h0.blk.mod hm0 h0.apart
  have hne : v5.ownBlock ≠ some sb := fun e => by
    rcases hv with h | h
    · exact h0.apart (by rw [← h]; exact e)
    · rw [h] at e
      have := Option.some.inj e
      simp at this
      omega
  have hm7 : Mod (fun z => z = sb) w5 (w5.setCell ⟨sb, 1, none⟩ v5) := (Mod.refl (fun z => z = sb) w5).setCell (p := ⟨sb, 1, none⟩) (fun _ => rfl) _
  refine ⟨⟨hb5.set 1 _, ?_, hne, h0.base, hok, h0.most⟩, ?_, ?_⟩
  · rw [he]
    exact h5.mod hm7 (fun z e1 e2 => hne (by rw [← e2]; exact e1))
  · exact (hm0.mono (fun _ _ e => .inr e)).trans hm7 (fun _ _ e => .inl e)
  · rcases hv with h | h
    · exact .inl h
    · exact .inr ⟨_, h, by simp; omega⟩
theorem addW (sb B : Nat) (tot a b : Int) (v : Value) (l : List (Int × Int)) (w : World) (h : SetB w B sb tot v l) (h1 : 0 ≤ a) (h2 : a ≤ b) (h3 : b ≤ tot) :
    Calls Try.prog 64 #[.pointer (some ⟨sb, 0, none⟩), .int .i64 a, .int .i64 b] w fun e w' => e = .returned (.tuple #[.int .i64 (freshR l a b), .int .i64 0]) ∧ ∃ v', SetB w' B sb tot v' (putR l a b) ∧ Mod (fun z => z = sb ∨ v.ownBlock = some z) w w' ∧ (v'.ownBlock = v.ownBlock ∨ ∃ g, v'.ownBlock = some g ∧ w.heap.size ≤ g) := by
  have hsb := h.blk.lt
  have hm1 := (Mod.refl (fun _ => False) w).alloc (.cells #[.int .i64 a] 3)
  have hfb := Blk.new w 3 #[.int .i64 a]
  have hw1 : (w.alloc (.cells #[.int .i64 a] 3)).heap.size = w.heap.size + 1 := by simp
  obtain ⟨w1, hw1e⟩ : ∃ w1, w.alloc (.cells #[.int .i64 a] 3) = w1 := ⟨_, rfl⟩
  rw [hw1e] at hm1 hfb hw1
  obtain ⟨fb, hfbe⟩ : ∃ fb, w.heap.size = fb := ⟨_, rfl⟩
  rw [hfbe] at hfb hw1 hsb
  have hs1 := h.mod hm1 (fun e => e) (fun _ _ e => e)
  have hp := putR_ok h.ok h1 h2 h3
  have HP := Lib.hid hp
  have HMY := Lib.hid (mayW sb tot a b w1 (hs1.blk.cell 0) h1 h2 h3)
  have HFR := Lib.hid (freshW sb B tot a b v l w1 hs1 h1 h2 h3)
  have hln := h.len
  have hmo := h.most
  have hob : ∀ z, v.ownBlock = some z → z < fb := fun z e => by rw [← hfbe]; exact (h.own.lt z e).2
  obtain ⟨i, hi1, hi2, hi3⟩ := addR_put l a b
  have hfc := hfb.cell 0
  have HS0 := Lib.hid h
  have HS1 := Lib.hid hs1
  have HFB := Lib.hid hfb
  have HM1 := Lib.hid hm1
  have HOB := Lib.hid hob
  have HW1 := Lib.hid hw1e
  have HFE := Lib.hid hfbe
  have HI3 := Lib.hid hi3
  have hi2' := hi2 0
  rw [Nat.zero_add] at hi2'
  have HI2 := Lib.hid hi2'
  have hfr := freshR_pos h.ok h1 h2
  obtain ⟨F, hF⟩ : ∃ F, freshR l a b = F := ⟨_, rfl⟩
  rw [hF] at HFR hfr ⊢
  have HF := Lib.hid hF
  clear h hs1 hfb hm1 hob hp hi2 hi2' hi3 hF
  by_cases hF0 : F = 0
  · subst hF0
    have hpl : putR l a b = l := by unfold putR; rw [if_pos HF.out]
    rw [hpl]
    clear hpl
    go_enter Try.func64, Try.ntmps64
    go_upto_region 1 with fail
    clear hw1e hfbe
    go_wp2_with fail
    refine HMY.out.mono ?_
    rintro e w2 ⟨rfl, rfl⟩
    go_wp2_with fail
    refine HFR.out.mono ?_
    rintro e w2 ⟨rfl, m2⟩
    have HM2 := Lib.hid m2
    clear m2 hfc
    go_wp2_with fail
    go_ret2
    refine ⟨rfl, v, HS1.out.mod HM2.out (fun e => e) (fun _ _ e => e), ?_, .inl rfl⟩
    exact (HM1.out.trans HM2.out (fun _ _ e => e)).mono (fun _ _ e => e.elim)
  · have hpl : putR l a b = addR l a b := by unfold putR; rw [if_neg (by rw [HF.out]; exact hF0)]
    rw [hpl] at HP ⊢
    clear hpl
    have hF0b : (F == 0) = false := by simpa using hF0
    have hab : a < b := by omega
    obtain ⟨n, hn⟩ : ∃ n, l.length = n := ⟨_, rfl⟩
    rw [hn] at hi1 hln HI2
    have HN := Lib.hid hn
    obtain ⟨A, cap, rfl, hcap, hA⟩ := HS0.out.own.form
    rw [hn] at HS0 HS1 HOB hcap ⊢
    have HA := Lib.hid hA
    obtain ⟨MR, hMR⟩ : ∃ MR, mergeR (l.drop i) a b = MR := ⟨_, rfl⟩
    rw [hMR] at HI3
    have HMR := Lib.hid hMR
    obtain ⟨P, hP⟩ : ∃ P, placeR a l 0 = P := ⟨_, rfl⟩
    rw [hP] at HI2
    have HPP := Lib.hid hP
    have hsp : (0 ≤ P ∧ P = (i : Int) ∧ i < n) ∨ (P < 0 ∧ i = n) := by
      have := HI2.out
      split at this
      · exact .inl ⟨by omega, this, by assumption⟩
      · exact .inr ⟨by omega, by omega⟩
    clear hn hA hMR hP HI2
    rcases hsp with ⟨hP0, rfl, hin⟩ | ⟨hP0, hin⟩
    all_goals
      go_enter Try.func64, Try.ntmps64
      go_upto_region 1 with fail
      clear hw1e hfbe
      go_wp2_with fail
      refine HMY.out.mono ?_
      rintro e w2 ⟨rfl, rfl⟩
      go_wp2_with fail
      refine HFR.out.mono ?_
      rintro e w2 ⟨rfl, m2⟩
      have hb2 := HFB.out.mod m2 (fun e => e)
      have HS2 := Lib.hid (HS1.out.mod m2 (fun e => e) (fun _ _ e => e))
      have c1 : w2.cell? ⟨sb, 1, none⟩ = some (.slice A n cap) := HS2.out.blk.cell 1
      have HIX := Lib.hid (idxRW (.slice A n cap) l a fb B w2 HS2.out.own HS2.out.len (hb2.cell 0))
      rw [HPP.out] at HIX
      have HM2 := Lib.hid m2
      have HB2 := Lib.hid hb2
      clear m2 hb2 hfc
      go_wp2_with fail
      refine HIX.out.mono ?_
      rintro e w3 ⟨rfl, m3⟩
      have HB3 := Lib.hid (HB2.out.mod m3 (fun e => e))
      have HS3 := Lib.hid (HS2.out.mod m3 (fun e => e) (fun _ _ e => e))
      have HM3 := Lib.hid (HM1.out.trans (HM2.out.trans m3 (fun _ _ e => e)) (fun _ _ e => e))
      clear c1 m3
      have c1 : w3.cell? ⟨sb, 1, none⟩ = some (.slice A n cap) := HS3.out.blk.cell 1
      go_wp2_with fail
      clear c1
      try rw [show Value.int .i64 (n : Int) = .int .i64 (i : Int) by rw [hin]]
      clear hin hP0
      go_loopw [9, 2] (fun q s wr => ∃ (k : Nat) (lo hi : Int), q = .int .i64 k ∧ s = .int .i64 hi ∧ i ≤ k ∧ k ≤ n ∧ Hid ((k - i + (mergeR (l.drop k) lo hi).1, (mergeR (l.drop k) lo hi).2) = MR) ∧ Blk wr fb 3 #[.int .i64 lo] ∧ Mod (fun z => z = fb) w3 wr) (fun q _ _ => n - (intOf q).toNat)
      case atStart => exact ⟨i, a, b, rfl, rfl, Nat.le_refl _, hi1, Lib.hid (by rw [Nat.sub_self, Nat.zero_add]; exact HMR.out), HB3.out, Mod.refl _ _⟩
      case round =>
        obtain ⟨k, lo, hi, rfl, rfl, hik, hk, hrel, hbr, hmr⟩ := hrel
        have HSR := Lib.hid (HS3.out.mod hmr (fun e => by omega) (fun z e1 e2 => by have := HOB.out z e1; omega))
        have c1 : wr.cell? ⟨sb, 1, none⟩ = some (.slice A n cap) := HSR.out.blk.cell 1
        have cf : wr.cell? ⟨fb, 0, none⟩ = some (.int .i64 lo) := hbr.cell 0
        have ff : wr.frozen? ⟨fb, 0, none⟩ = false := hbr.free 0
        have HBR := Lib.hid hbr
        have HMW := Lib.hid hmr
        clear hbr hmr
        have hend : Hid (MR = (k - i, lo, hi)) → (wr' : World) → True := fun _ _ => trivial
        clear hend
        by_cases hkn : k < n
        · have hkx : k < l.length := by rw [HN.out]; exact hkn
          have hkz : (k : Int) < (n : Int) := by omega
          have hkz0 : (0 : Int) ≤ (k : Int) := by omega
          have hkd : decide ((k : Int) < (n : Int)) = true := by simpa using hkz
          have hx? := List.getElem?_eq_getElem hkx
          have hdr := List.drop_eq_getElem_cons hkx
          obtain ⟨g, rfl⟩ : ∃ g, A = some ⟨g, 0, none⟩ := by
            rcases HA.out with ⟨_, hnil, _⟩ | ⟨g, e, _⟩
            · rw [hnil] at hkx; simp at hkx
            · exact ⟨g, e⟩
          have d1 : wr.cell? ⟨g, k * 2, none⟩ = some (.int .i64 (l[k]'hkx).1) := by
            have := HSR.out.own.cell encR_len hx? (j := 0) (by omega)
            simpa using this
          have d2 : wr.cell? ⟨g, k * 2 + 1, none⟩ = some (.int .i64 (l[k]'hkx).2) := by
            have := HSR.out.own.cell encR_len hx? (j := 1) (by omega)
            simpa using this
          rw [hdr] at hrel
          generalize l[k]'hkx = x at *
          obtain ⟨x1, x2⟩ := x
          simp only at d1 d2
          clear hx? hkx hdr
          by_cases hx1 : x1 ≤ hi
          · have hx1d : decide (x1 ≤ hi) = true := by simpa using hx1
            have hnx : (k + 1 - i + (mergeR (l.drop (k + 1)) (min lo x1) (max hi x2)).1, (mergeR (l.drop (k + 1)) (min lo x1) (max hi x2)).2) = MR := by
              have := hrel.out
              unfold mergeR at this
              rw [if_pos hx1] at this
              dsimp only at this
              rw [← this]
              congr 1
              omega
            have HNX := Lib.hid hnx
            clear hnx hrel
            go_wp2_with fail
            clear hx1 hx1d
            have hg1 : g < wr.heap.size := by have := block_lt_of_cell d1; simpa using this
            have hg2 : ¬ g = fb := by have := HOB.out g rfl; omega
            have hs1 : sb < wr.heap.size := HSR.out.blk.lt
            have hs2 : ¬ sb = fb := by omega
            have KK := Lib.hid (fun v : Value => (⟨(((Mod.refl (fun z => z = fb) wr).setCell (p := ⟨fb, 0, none⟩) (fun _ => rfl) v).cell (p := ⟨sb, 1, none⟩) hs1 hs2).trans c1, (((Mod.refl (fun z => z = fb) wr).setCell (p := ⟨fb, 0, none⟩) (fun _ => rfl) v).cell (p := ⟨g, k * 2, none⟩) hg1 hg2).trans d1, (((Mod.refl (fun z => z = fb) wr).setCell (p := ⟨fb, 0, none⟩) (fun _ => rfl) v).cell (p := ⟨g, k * 2 + 1, none⟩) hg1 hg2).trans d2⟩ : (wr.setCell ⟨fb, 0, none⟩ v).cell? ⟨sb, 1, none⟩ = some (.slice (some ⟨g, 0, none⟩) n cap) ∧ (wr.setCell ⟨fb, 0, none⟩ v).cell? ⟨g, k * 2, none⟩ = some (.int .i64 x1) ∧ (wr.setCell ⟨fb, 0, none⟩ v).cell? ⟨g, k * 2 + 1, none⟩ = some (.int .i64 x2)))
            have hsa : (x1 < lo ∧ min lo x1 = x1) ∨ (¬ x1 < lo ∧ min lo x1 = lo) := by omega
            have hsb2 : (hi < x2 ∧ max hi x2 = x2) ∨ (¬ hi < x2 ∧ max hi x2 = hi) := by omega
            rcases hsa with ⟨ha1, ha2⟩ | ⟨ha1, ha2⟩
            all_goals rcases hsb2 with ⟨hb1, hb2⟩ | ⟨hb1, hb2⟩
            all_goals
              rw [ha2, hb2] at HNX
              clear ha2 hb2
            · go_region
              have HB5 := Lib.hid (show Blk (wr.setCell ⟨fb, 0, none⟩ (.int .i64 x1)) fb 3 #[.int .i64 x1] from HBR.out.set 0 _)
              have HM5 := Lib.hid (HMW.out.setCell (p := ⟨fb, 0, none⟩) (fun _ => rfl) (.int .i64 x1))
              go_wp2_with fail
              go_roundw
              case rel => exact ⟨k + 1, x1, x2, by go_num, rfl, by omega, by omega, HNX, HB5.out, HM5.out.drew⟩
              case measure => simp [intOf]; omega
            · go_region
              have HB5 := Lib.hid (show Blk (wr.setCell ⟨fb, 0, none⟩ (.int .i64 x1)) fb 3 #[.int .i64 x1] from HBR.out.set 0 _)
              have HM5 := Lib.hid (HMW.out.setCell (p := ⟨fb, 0, none⟩) (fun _ => rfl) (.int .i64 x1))
              go_wp2_with fail
              go_roundw
              case rel => exact ⟨k + 1, x1, hi, by go_num, rfl, by omega, by omega, HNX, HB5.out, HM5.out.drew⟩
              case measure => simp [intOf]; omega
            · go_region
              have HB5 := Lib.hid (show Blk (wr.setCell ⟨fb, 0, none⟩ (.int .i64 lo)) fb 3 #[.int .i64 lo] from HBR.out.set 0 _)
              have HM5 := Lib.hid (HMW.out.setCell (p := ⟨fb, 0, none⟩) (fun _ => rfl) (.int .i64 lo))
              go_wp2_with fail
              go_roundw
              case rel => exact ⟨k + 1, lo, x2, by go_num, rfl, by omega, by omega, HNX, HB5.out, HM5.out.drew⟩
              case measure => simp [intOf]; omega
            · go_region
              have HB5 := Lib.hid (show Blk (wr.setCell ⟨fb, 0, none⟩ (.int .i64 lo)) fb 3 #[.int .i64 lo] from HBR.out.set 0 _)
              have HM5 := Lib.hid (HMW.out.setCell (p := ⟨fb, 0, none⟩) (fun _ => rfl) (.int .i64 lo))
              go_wp2_with fail
              go_roundw
              case rel => exact ⟨k + 1, lo, hi, by go_num, rfl, by omega, by omega, HNX, HB5.out, HM5.out.drew⟩
              case measure => simp [intOf]; omega
          · have hx1d : decide (x1 ≤ hi) = false := by simpa using hx1
            have hx1n : ¬ x1 ≤ hi := hx1
            have hmr0 : MR = (k - i, lo, hi) := by
              have := hrel.out
              unfold mergeR at this
              rw [if_neg hx1] at this
              exact this.symm
            have hadd : addR l a b = l.take i ++ (lo, hi) :: l.drop k := by
              rw [HI3.out, hmr0]
              show l.take i ++ (lo, hi) :: l.drop (i + (k - i)) = _
              rw [show i + (k - i) = k by omega]
            have hvb := (Blk.new wr 131 #[.int .i64 lo, .int .i64 hi]).drew
            have hma := ((Mod.refl (fun _ => False) wr).alloc (.cells #[.int .i64 lo, .int .i64 hi] 131)).drew
            have hwr := HMW.out.size
            have hw3 := HM3.out.size
            have HREP := Lib.hid (SlR.replaceW (.slice (some ⟨g, 0, none⟩) n cap) i k l (lo, hi) (wr.alloc (.cells #[.int .i64 lo, .int .i64 hi] 131)).drew B (HSR.out.own.mod hma (fun _ _ e => e)) hik (by rw [HN.out]; exact hk) (by rw [HN.out]; exact hln) wr.heap.size hvb (fun e => by have h1 : wr.heap.size < fb := HOB.out _ e; have h2 := HFE.out; omega) (by have h1 := HSR.out.blk.lt; have h2 := HSR.out.base; have h3 := hma.size; omega))
            have HMA := Lib.hid hma
            have ca : (wr.alloc (.cells #[.int .i64 lo, .int .i64 hi] 131)).cell? ⟨sb, 1, none⟩ = some (.slice (some ⟨g, 0, none⟩) n cap) := (HSR.out.blk.mod HMA.out (fun e => e)).cell 1
            have HADD := Lib.hid hadd
            have HMX := Lib.hid (HM3.out.mono (S' := fun z => z = fb) (fun _ _ e => e.elim) |>.trans HMW.out (fun _ _ e => e))
            clear hadd hvb hma hmr0 hrel
            go_wp2_with fail
            clear d1 d2 hx1 hx1d hx1n
            go_region_law (go_simp; go_at_call 87; refine HREP.out.mono ?_; rintro e w5 ⟨v5, rfl, ho5, m5, hv5⟩; have hb5 := (HSR.out.blk.mod HMA.out (fun e => e)).mod m5 HSR.out.apart; obtain ⟨A5, cap5, he5, -, -⟩ := ho5.form; obtain ⟨N5, hN5⟩ : ∃ N5, (List.take i l ++ (lo, hi) :: List.drop k l).length = N5 := ⟨_, rfl⟩; rw [hN5] at he5; subst he5; clear hN5; have c5 : w5.cell? ⟨sb, 1, none⟩ = some (.slice (some ⟨g, 0, none⟩) n cap) := hb5.cell 1; have f5 : w5.frozen? ⟨sb, 1, none⟩ = false := hb5.free 1)
            all_goals
              have hfin := addFin HS0.out HFE.out HMX.out ho5 m5 hv5 HADD.out HP.out.1
              have HFIN := Lib.hid hfin
              clear hfin ho5 m5 hv5
              go_wp2_with fail
              go_ret2
              exact ⟨rfl, _, HFIN.out⟩
        · obtain rfl : k = n := by omega
          have hkz : ¬ (k : Int) < (k : Int) := by omega
          have hkd : decide ((k : Int) < (k : Int)) = false := by simp
          have hdn : l.drop k = [] := List.drop_eq_nil_of_le (by rw [HN.out]; exact Nat.le_refl _)
          have hmr0 : MR = (k - i, lo, hi) := by
            have := hrel.out
            rw [hdn] at this
            exact this.symm
          clear hdn
          have hadd : addR l a b = l.take i ++ (lo, hi) :: l.drop k := by
            rw [HI3.out, hmr0]
            show l.take i ++ (lo, hi) :: l.drop (i + (k - i)) = _
            rw [show i + (k - i) = k by omega]
          have hvb := (Blk.new wr 131 #[.int .i64 lo, .int .i64 hi]).drew
          have hma := ((Mod.refl (fun _ => False) wr).alloc (.cells #[.int .i64 lo, .int .i64 hi] 131)).drew
          have hwr := HMW.out.size
          have hw3 := HM3.out.size
          have HREP := Lib.hid (SlR.replaceW (.slice A k cap) i k l (lo, hi) (wr.alloc (.cells #[.int .i64 lo, .int .i64 hi] 131)).drew B (HSR.out.own.mod hma (fun _ _ e => e)) hik (by rw [HN.out]; exact hk) (by rw [HN.out]; exact hln) wr.heap.size hvb (fun e => by have h1 : wr.heap.size < fb := HOB.out _ e; have h2 := HFE.out; omega) (by have h1 := HSR.out.blk.lt; have h2 := HSR.out.base; have h3 := hma.size; omega))
          have HMA := Lib.hid hma
          have ca : (wr.alloc (.cells #[.int .i64 lo, .int .i64 hi] 131)).cell? ⟨sb, 1, none⟩ = some (.slice A k cap) := (HSR.out.blk.mod HMA.out (fun e => e)).cell 1
          have HADD := Lib.hid hadd
          have HMX := Lib.hid (HM3.out.mono (S' := fun z => z = fb) (fun _ _ e => e.elim) |>.trans HMW.out (fun _ _ e => e))
          clear hadd hvb hma hmr0 hrel
          go_wp2_with fail
          go_region_law (go_simp; go_at_call 87; refine HREP.out.mono ?_; rintro e w5 ⟨v5, rfl, ho5, m5, hv5⟩; have hb5 := (HSR.out.blk.mod HMA.out (fun e => e)).mod m5 HSR.out.apart; obtain ⟨A5, cap5, he5, -, -⟩ := ho5.form; obtain ⟨N5, hN5⟩ : ∃ N5, (List.take i l ++ (lo, hi) :: List.drop k l).length = N5 := ⟨_, rfl⟩; rw [hN5] at he5; subst he5; clear hN5; have c5 : w5.cell? ⟨sb, 1, none⟩ = some (.slice A k cap) := hb5.cell 1; have f5 : w5.frozen? ⟨sb, 1, none⟩ = false := hb5.free 1)
          all_goals
            have hfin := addFin HS0.out HFE.out HMX.out ho5 m5 hv5 HADD.out HP.out.1
            have HFIN := Lib.hid hfin
            clear hfin ho5 m5 hv5
            go_wp2_with fail
            go_ret2
            exact ⟨rfl, _, HFIN.out⟩
end Go.Proofs.Ytddnlbkocmpffaa
