/- The cuts of a meter (under way). -/
import Derived.Test.YtodinfadheabpaaCutW
import Derived.Test.YtodinfadheabpaaCutP
import Derived.Test.YtodinfadheabpaaRow2
import Derived.Deep.LoopGhost
import Derived.Deep.CutBlock
namespace Go.Proofs.Ytodinfadheabpaa
open Go.RowKit Go.Shelf
set_option linter.unusedVariables false
set_option maxHeartbeats 4000000
set_option maxRecDepth 100000
theorem ints_of_own {w : World} {e : TypeId} {v : Value} {n : Nat} {zs : List Int} (hn : zs.length = n) (h : w.ownsRow 0 e 1 v n (zs.map (Value.int .i64))) : IntsAt w v zs := by
  have hl := h.lt
  rcases h.2 with ⟨rfl, h0⟩ | ⟨g, cap, cur, rfl, _⟩
  · exact .inl ⟨rfl, List.eq_nil_of_length_eq_zero (by omega)⟩
  · refine .inr ⟨g, 0, cap, by rw [hn], (hl g rfl).2, fun j hj => ?_⟩
    have := h.cellAt j (by omega)
    rw [Nat.zero_add, this, List.getElem?_map, List.getElem?_eq_getElem hj]
    rfl
theorem IntsAt.later {w w' : World} {v : Value} {zs : List Int} (h : IntsAt w v zs) (m : Mod (fun _ => False) w w') : IntsAt w' v zs := by
  rcases h with h | ⟨b, off, cap, e, hb, hc⟩
  · exact .inl h
  · exact .inr ⟨b, off, cap, e, Nat.lt_of_lt_of_le hb m.size, fun j hj => (m.below.cell (p := ⟨b, off + j, none⟩) hb).trans (hc j hj)⟩
theorem cell_lt {w : World} {p : Addr} {v : Value} (h : w.cell? p = some v) : p.block < w.heap.size := by
  rcases Nat.lt_or_ge p.block w.heap.size with h' | h'
  · exact h'
  · simp [World.cell?, Array.getElem?_eq_none h'] at h
theorem cutsNone (x : Int) (w : World) : Calls Try.prog 11 #[.pointer none, .int .i64 x] w fun e w' => e = .returned (.slice none 0 0) ∧ w = w' := by
  go_enter Try.func11, Try.ntmps11
  go_wp2
  go_ret
  exact ⟨rfl, rfl⟩
theorem cutsW (b : Nat) (g : Option Nat) (lev most x : Int) (zs : List Int) (w : World) (m : Mt w b g lev most zs) (h1 : 1 ≤ lev) (h2 : lev ≤ 8) (hz : zs.length ≤ 1000) (hzb : ∀ z ∈ zs, 0 ≤ z ∧ z ≤ 1073741824) :
    Calls Try.prog 11 #[.pointer (some ⟨b, 0, none⟩), .int .i64 x] w fun e w' => ∃ v, e = .returned v ∧ Own w' w.heap.size 3 1 encI v (cutsZ lev (clampZ x 0 1073741824) (sortZ zs)) ∧ Mod (fun _ => False) w w' := by
  obtain ⟨i0, hi0, hz0, hz1, hz2⟩ := info_parts int_info
  obtain ⟨A, cap, hg, hB, hown⟩ := m.row
  have hI := ints_of_own rfl hown
  have hc := hB.cell
  have hsl : (sortZ zs).length = zs.length := by simp [sortZ]
  have hsb : ∀ z ∈ sortZ zs, 0 ≤ z ∧ z ≤ 1073741824 := fun z h => hzb z (by simpa [sortZ] using h)
  have hwb : 0 ≤ clampZ x 0 1073741824 ∧ clampZ x 0 1073741824 ≤ 1073741824 := by unfold clampZ; omega
  have hC := numClamp x 0 1073741824 w
  have m1 : Mod (fun _ => False) w (w.alloc (.cells #[.slice A zs.length cap] 22)) := (Mod.refl _ w).alloc _
  have hs := sortedW (.slice A zs.length cap) zs w.heap.size hz (w.alloc (.cells #[.slice A zs.length cap] 22)) (by simp) (by simp) (hI.later m1)
  generalize sortZ zs = l at *
  generalize clampZ x 0 1073741824 = win at *
  have HC := Lib.hid hC
  have HS := Lib.hid hs
  have HSL := Lib.hid hsl
  have HSB := Lib.hid hsb
  clear hC hs hsl hsb
  obtain ⟨wb0, wb1⟩ := hwb
  go_enter Try.func11, Try.ntmps11
  go_wp2_with fail
  refine HC.out.mono ?_
  rintro e w' ⟨rfl, rfl⟩
  go_wp2_with fail
  refine (valuesW _ _ _ _).mono ?_
  rintro e w' ⟨rfl, rfl⟩
  go_wp2_with fail
  refine HS.out.mono ?_
  rintro e w2 ⟨v, rfl, hrow, hb⟩
  obtain ⟨A2, cap2, rfl⟩ : ∃ A2 cap2, v = .slice A2 zs.length cap2 := by
    rcases hrow.2 with ⟨h, h2⟩ | ⟨g, cap, cur, h, _⟩
    · exact ⟨none, 0, by rw [h, h2]⟩
    · exact ⟨_, cap, h⟩
  have m2 : Mod (fun _ => False) w w2 := m1.trans ⟨hb.os, hb.tape, hb.output, hb.size, fun k hk _ => hb.block k hk⟩ (fun _ _ h => h)
  have hsl := HSL.out
  have hsb := HSB.out
  have hpre : ∀ k, 0 ≤ allZ win (l.take k) ∧ allZ win (l.take k) ≤ 1073741824000 := fun k => by
    have := allZ_bd wb0 (l.take k) (fun z h => hsb z (List.mem_of_mem_take h))
    have h3 : (l.take k).length ≤ l.length := by rw [List.length_take]; omega
    have h4 : l.length ≤ 1000 := by rw [hsl]; exact hz
    have h5 : (l.take k).length * 1073741824 ≤ 1000 * 1073741824 := Nat.mul_le_mul_right _ (by omega)
    refine ⟨this.1, Int.le_trans this.2 (by omega)⟩
  have hcell : ∀ k (h : k < l.length), ∃ g2, A2 = some ⟨g2, 0, none⟩ ∧ w2.cell? ⟨g2, k, none⟩ = some (.int .i64 l[k]) := fun k h => by
    obtain ⟨g2, c2, e2, _⟩ := hrow.form (by omega)
    injection e2 with e2
    subst e2
    refine ⟨g2, rfl, ?_⟩
    have := hrow.cellAt k (by omega)
    rw [this, List.getElem?_map, List.getElem?_eq_getElem h]
    rfl
  have HPRE := Lib.hid hpre
  have HCELL := Lib.hid hcell
  clear hpre hcell hsb hsl
  go_wp2_with fail
  go_loopw [6, 26] (fun a i wr => ∃ k : Nat, i = .int .i64 k ∧ k ≤ zs.length ∧ a = .int .i64 (allZ win (l.take k)) ∧ wr = w2) (fun _ i _ => zs.length - (intOf i).toNat)
  case atStart => exact ⟨0, rfl, by omega, by simp [allZ], rfl⟩
  case round =>
    obtain ⟨k, rfl, hk, rfl, hwr⟩ := hrel
    subst hwr
    by_cases hkl : k < zs.length
    · have hsl := HSL.out
      obtain ⟨g2, rfl, hc2⟩ := HCELL.out k (by omega)
      have ht := allZ_take (win := win) (l := l) (k := k) (by omega)
      have hp1 := HPRE.out k
      have hp2 := HPRE.out (k + 1)
      have hl := HSB.out _ (List.getElem_mem (show k < l.length by omega))
      generalize l[k]'(by omega) = z at *
      generalize allZ win (l.take k) = p at *
      clear hsl
      go_wp2
      go_roundw
      case rel => exact ⟨k + 1, by go_num, by omega, by rw [ht], trivial⟩
      case measure => simp [intOf]; omega
    · have htk : l.take k = l := List.take_of_length_le (by have := HSL.out; omega)
      have hA := HPRE.out k
      rw [htk] at hA ⊢
      clear hk htk
      have HB := Lib.hid hB
      have HROW := Lib.hid hrow
      have hsz := m2.size
      clear hrow hc hB hb
      have hprod : ∀ j : Nat, j < 8 → 0 ≤ ((j : Int) + 1) * allZ win l ∧ ((j : Int) + 1) * allZ win l ≤ 8589934592000 := fun j hj => by
        have h0 := Int.mul_nonneg (show (0 : Int) ≤ (j : Int) + 1 by omega) hA.1
        have h1 := Int.mul_le_mul (show (j : Int) + 1 ≤ 8 by omega) hA.2 hA.1 (by omega)
        omega
      have HPROD := Lib.hid hprod
      clear hprod
      obtain ⟨wo, rfl⟩ : ∃ wo : World, wo = wr := ⟨_, rfl⟩
      go_wp2_with fail
      go_loopg [4, 9] (lev.toNat) (fun gn out i wq => ∃ j : Nat, i = .int .i64 ((j : Int) + 1) ∧ j + 1 ≤ lev.toNat ∧ gn + j = lev.toNat ∧ Own wq wo.heap.size 3 1 encI out (cutsTo lev win l j) ∧ Mod (fun _ => False) wo wq)
      case atStart => exact ⟨0, rfl, by omega, by omega, Own.nil, Mod.refl _ _⟩
      case round =>
        obtain ⟨j, rfl, hj, hgn, hown, hmq⟩ := hrel
        obtain ⟨wq, rfl⟩ : ∃ wq : World, wq = wr := ⟨_, rfl⟩
        have hcq := ((HB.out.mod m2 (fun e => e)).mod hmq (fun e => e)).cell
        have hA2 := HPROD.out j (by omega)
        by_cases hlt : j + 1 < lev.toNat
        · have hlt' : (j : Int) + 1 < lev := by omega
          go_upto_block 4 with fail
          go_cut [10, 11, 13] from 46 to 66 (fun s c n wx => c = .int .i64 (cutAt win ((((j : Int) + 1) * allZ win l) / lev) l 0 0) ∧ wx = wq)
          case first =>
            go_wp2_with fail
            go_loopg [10, 11, 46] (zs.length) (fun gk s c q w3 => ∃ (k : Nat) (c' : Int), gk + k = zs.length ∧ q = .int .i64 k ∧ s = .int .i64 (allZ win (l.take k)) ∧ c = .int .i64 c' ∧ cutAt win ((((j : Int) + 1) * allZ win l) / lev) l 0 0 = cutAt win ((((j : Int) + 1) * allZ win l) / lev) (l.drop k) (allZ win (l.take k)) c' ∧ w3 = wq)
            case atStart => exact ⟨0, 0, rfl, rfl, by simp [allZ], rfl, by simp [allZ], rfl⟩
            case round =>
              obtain ⟨q, c', hgq, rfl, rfl, rfl, hcq', hw3⟩ := hrel
              obtain ⟨w3, rfl⟩ : ∃ w3 : World, w3 = wr := ⟨_, rfl⟩
              subst hw3
              have HCQ := Lib.hid hcq'
              clear hcq'
              have hlen := HSL.out
              by_cases hq : q < zs.length
              · obtain ⟨g2, rfl, hc2⟩ := HCELL.out q (by omega)
                have hc3 := (hmq.below.cell (p := ⟨g2, q, none⟩) (cell_lt hc2)).trans hc2
                have ht := allZ_take (win := win) (l := l) (k := q) (by omega)
                have hp1 := HPRE.out q
                have hp2 := HPRE.out (q + 1)
                have hl := HSB.out _ (List.getElem_mem (show q < l.length by omega))
                have hql : q < l.length := by omega
                have hyes := fun h => cutAt_yes (win := win) (t := (((j : Int) + 1) * allZ win l) / lev) (s := allZ win (l.take q)) (c := c') (l := l) (k := q) hql h
                have hno := fun h => cutAt_no (win := win) (t := (((j : Int) + 1) * allZ win l) / lev) (s := allZ win (l.take q)) (c := c') (l := l) (k := q) hql h
                rw [ht] at hp2
                have HT := Lib.hid ht
                have HY := Lib.hid hyes
                have HN := Lib.hid hno
                clear ht hyes hno hc2
                generalize l[q]'(by omega) = z at *
                by_cases hT : ((j : Int) + 1) * allZ win l / lev ≤ allZ win (l.take q) + min z win
                · have HT2 := Lib.hid hT
                  go_wp2_with fail
                  go_meet
                  case rel =>
                    refine ⟨?_, rfl⟩
                    rw [HCQ.out, HY.out HT2.out]
                · have HT2 := Lib.hid hT
                  go_wp2_with fail
                  go_roundg (gk - 1)
                  case measure => omega
                  case rel => exact ⟨q + 1, z, by omega, by go_num, by rw [HT.out], rfl, by rw [HCQ.out, HN.out HT2.out, HT.out], rfl⟩
              · go_wp2_with fail
                go_meet
                case rel =>
                  refine ⟨?_, rfl⟩
                  rw [HCQ.out, cutAt_end (by omega)]
          case rest =>
            obtain ⟨rfl, hwc⟩ := hcut
            generalize hcv : cutAt win ((((j : Int) + 1) * allZ win l) / lev) l 0 0 = cv at *
            have HCV := Lib.hid hcv
            clear hcv
            subst hwc
            obtain ⟨A3, cap3, rfl, hcap3, _⟩ := hown.form
            have hrow := hown
            unfold Own at hrow
            have hbase3 : ∀ k, (Value.slice A3 (cutsTo lev win l j).length cap3).ownBlock = some k → wo.heap.size ≤ k := fun k e => hown.base e
            rw [cutsTo_len] at hcap3 hrow hbase3 ⊢
            have HB3 := Lib.hid hbase3
            clear hbase3
            have hlit := World.ownsRow_lit (base := 0) (size := 1) (e := 3) wc #[.int .i64 cv] 1 (Nat.zero_le _) (by decide) rfl
            have HLIT := Lib.hid (Reads.of_own hlit)
            have HOWN := Lib.hid (own_mod ((Mod.refl (fun _ => False) wc).alloc (.cells #[.int .i64 cv] 3)) hrow (fun _ _ h => h))
            have H1C := Lib.hid (one_I cv)
            go_wp2_with (at_builtin
                         refine wpList_append_any _ rfl (.tmp 67) (.tmp 69) _ rfl wo.heap.size 3 i0 _ 1 8 Try.underlying22 hi0 hz0 hz1 hz2 rfl (by omega) (.slice A3 j cap3) j ((cutsTo lev win l j).flatMap encI) rfl HOWN.out _ (some ⟨wc.heap.size, 0, none⟩) 1 1 [.int .i64 cv] rfl HLIT.out H1C.out (by simp only [maxLen]; omega) (by omega) (Nat.le_trans hmq.size ((Mod.refl (fun _ => False) wc).alloc _).size) ?_
                         intro v2 w2 hown2 hgr2 hat2)
            have hown2' : Own w2 wo.heap.size 3 1 encI v2 (cutsTo lev win l (j + 1)) := by
              unfold Own
              rw [cutsTo_succ, flat_snoc, List.length_append, cutsTo_len, HCV.out]
              exact hown2
            have hmq2 : Mod (fun _ => False) wo w2 := (hmq.alloc (.cells #[.int .i64 cv] 3)).trans (Mod.ofGrown hgr2) (fun k hk e => by
              have := HB3.out k e
              omega)
            go_roundg (gk - 1)
            case measure => omega
            case rel => exact ⟨j + 1, by go_num, by omega, by omega, hown2', hmq2⟩
        · have hjl : j = lev.toNat - 1 := by omega
          have hfin : Own wq w.heap.size 3 1 encI u4 (cutsZ lev win l) := by
            unfold cutsZ
            rw [← hjl]
            exact hown.le hsz
          have hmf := m2.trans hmq (fun _ _ h => h)
          have HF := Lib.hid hfin
          have HM := Lib.hid hmf
          clear hjl hfin hmf
          go_wp2_with fail
          go_ret
          exact ⟨_, rfl, HF.out, HM.out⟩
end Go.Proofs.Ytodinfadheabpaa
