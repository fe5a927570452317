/- The reference's cuts. -/
import Derived.Test.YtodinfadheabpaaCutR
import Derived.Test.YtodinfadheabpaaCutQ
import Derived.Test.YtodinfadheabpaaAlike
import Derived.Deep.LoopGhost
import Derived.Deep.CutBlock
namespace Go.Proofs.Ytodinfadheabpaa
open Go.RowKit Go.Shelf
set_option linter.unusedVariables false
set_option maxHeartbeats 4000000
set_option maxRecDepth 100000
theorem Own.atI {w : World} {B : Nat} {T : TypeId} {g n cap : Nat} {zs : List Int} (h : Own w B T 1 encI (.slice (some ⟨g, 0, none⟩) n cap) zs) {i : Nat} {x : Int} (hi : zs[i]? = some x) :
    w.cell? ⟨g, i, none⟩ = some (.int .i64 x) := by
  have := h.cell encI_len hi (j := 0) (by omega)
  rw [Nat.mul_one, Nat.add_zero] at this
  exact this
theorem Own.setI {w : World} {B : Nat} {T : TypeId} {g n cap : Nat} {zs : List Int} (h : Own w B T 1 encI (.slice (some ⟨g, 0, none⟩) n cap) zs) {i : Nat} (hi : i < zs.length) (x : Int) :
    Own (w.setCell ⟨g, i, none⟩ (.int .i64 x)) B T 1 encI (.slice (some ⟨g, 0, none⟩) n cap) (zs.set i x) := by
  have := h.set encI_len (List.getElem?_eq_getElem hi) (j := 0) (by omega) (.int .i64 x) x rfl
  rw [Nat.mul_one, Nat.add_zero] at this
  exact this
/-- From j on all are greater. -/
def Above (l : List Int) (j : Nat) (x : Int) : Prop := ∀ i, j ≤ i → (h : i < l.length) → x < l[i]
/-- Ahead of j none is. -/
def Under (l : List Int) (j : Nat) (x : Int) : Prop := ∀ h : 0 < j, (h2 : j - 1 < l.length) → l[j - 1] ≤ x
theorem Above.step {l : List Int} {j : Nat} {x y : Int} (h : Above l j x) (hy : l[j - 1]? = some y) (hxy : x < y) : Above l (j - 1) x := fun i hi hl => by
  rcases Nat.lt_or_ge i j with h2 | h2
  · obtain rfl : i = j - 1 := by omega
    rw [List.getElem?_eq_getElem hl] at hy
    rw [Option.some.inj hy]
    exact hxy
  · exact h i h2 hl
theorem Under.of {l : List Int} {j : Nat} {x y : Int} (hy : l[j - 1]? = some y) (hxy : ¬ x < y) : Under l j x := fun _ h2 => by
  rw [List.getElem?_eq_getElem h2] at hy
  rw [Option.some.inj hy]
  omega
theorem refCutsW (b : Nat) (lev most x : Int) (zs : List Int) (w : World) (g0 : Option Nat) (m : Rm w b g0 lev most zs) (h1 : 1 ≤ lev) (h2 : lev ≤ 8) (hz : zs.length ≤ 1000) (hzb : ∀ z ∈ zs, 0 ≤ z ∧ z ≤ 1073741824) :
    Calls Try.prog 12 #[.pointer (some ⟨b, 0, none⟩), .int .i64 x] w fun e w' => ∃ v, e = .returned v ∧ Own w' w.heap.size 3 1 encI v (cutsZ lev (clampZ x 0 1073741824) (sortZ zs)) ∧ Mod (fun _ => False) w w' := by
  obtain ⟨i0, hi0, hz0, hz1, hz2⟩ := info_parts int_info
  obtain ⟨v, _, hB, hH, hne⟩ := m
  obtain ⟨A, cap, rfl, hcap⟩ := hH.form
  have HB := Lib.hid hB
  have HH := Lib.hid hH
  have HZB := Lib.hid hzb
  have hbs := hB.lt
  clear hH hzb hB
  have hwb : 0 ≤ clampZ x 0 1073741824 ∧ clampZ x 0 1073741824 ≤ 1073741824 := by unfold clampZ; omega
  have hC := refClamp x 0 1073741824 w
  generalize clampZ x 0 1073741824 = win at *
  obtain ⟨wb0, wb1⟩ := hwb
  have HC := Lib.hid hC
  clear hC
  have hpre : ∀ k, 0 ≤ allZ win (zs.take k) ∧ allZ win (zs.take k) ≤ 1073741824000 := fun k => by
    have := allZ_bd wb0 (zs.take k) (fun z h => HZB.out z (List.mem_of_mem_take h))
    have h3 : (zs.take k).length ≤ zs.length := by rw [List.length_take]; omega
    have h5 : (zs.take k).length * 1073741824 ≤ 1000 * 1073741824 := Nat.mul_le_mul_right _ (by omega)
    refine ⟨this.1, Int.le_trans this.2 (by omega)⟩
  have HPRE := Lib.hid hpre
  clear hpre
  go_enter Try.func12, Try.ntmps12
  go_wp2_with fail
  refine HC.out.mono ?_
  rintro e w' ⟨rfl, rfl⟩
  go_wp2_with fail
  go_loopg [5, 6, 7] (zs.length) (fun gk l al i wr => ∃ (k : Nat) (lst : List Int), gk + k = zs.length ∧ i = .int .i64 k ∧ k ≤ zs.length ∧ al = .int .i64 (allZ win (zs.take k)) ∧ lst.Pairwise (· ≤ ·) ∧ lst.Perm (zs.take k) ∧ Own wr w.heap.size 3 1 encI l lst ∧ Mod (fun _ => False) w wr)
  case atStart => exact ⟨0, [], rfl, rfl, by omega, by simp [allZ], List.Pairwise.nil, by simp, Own.nil, Mod.refl _ _⟩
  case round =>
    obtain ⟨k, lst, hgk, rfl, hk, rfl, hsort, hperm, hown, hm⟩ := hrel
    have hlen : lst.length = k := by rw [hperm.length_eq, List.length_take]; omega
    have hcr := (HB.out.mod hm (fun e => e)).cell
    have HSO := Lib.hid hsort
    have HPE := Lib.hid hperm
    have HLN := Lib.hid hlen
    have hl1000 : lst.length ≤ 1000 := by omega
    clear hsort hperm hlen
    obtain ⟨A2, cap2, rfl, hcap2, hA2⟩ := hown.form
    have HA2 := Lib.hid hA2
    clear hA2
    by_cases hkl : k < zs.length
    · have hx? := List.getElem?_eq_getElem hkl
      have hxb := HZB.out _ (List.getElem_mem hkl)
      have hat := allZ_take (win := win) hkl
      have hp1 := HPRE.out k
      have hp2 := HPRE.out (k + 1)
      generalize zs[k]'hkl = xk at *
      rw [hat] at hp2
      have HX := Lib.hid hx?
      have HAT := Lib.hid hat
      clear hat hx?
      generalize allZ win (zs.take k) = p at *
      obtain ⟨g, off, rfl, hg, hcell⟩ := (HH.out.later hm (Nat.le_refl _)).atI HX.out

      obtain ⟨wo, rfl⟩ : ∃ wo : World, wo = wr := ⟨_, rfl⟩
      obtain ⟨gout, rfl⟩ : ∃ n : Nat, n = gk := ⟨_, rfl⟩
      go_upto_block 2 with fail
      go_cut [8] from 27 to 45 (fun a wx => ∃ j nn : Nat, a = .int .i64 j ∧ j ≤ lst.length ∧ wx = wo.drewN nn ∧ Above lst j xk ∧ Under lst j xk)
      case first =>
        go_wp2_with fail
        go_loopg [8] (lst.length + 1) (fun gi a wi => ∃ j nn : Nat, j < gi ∧ a = .int .i64 j ∧ j ≤ lst.length ∧ wi = wo.drewN nn ∧ Above lst j xk)
        case atStart => exact ⟨lst.length, 0, by omega, rfl, Nat.le_refl _, rfl, fun i h1 h2 => by omega⟩
        case round =>
          obtain ⟨j, nn, hgi, rfl, hj, hwi, hab⟩ := hrel
          obtain ⟨wi, rfl⟩ : ∃ wi : World, wi = wr := ⟨_, rfl⟩
          subst hwi
          have HAB := Lib.hid hab
          clear hab
          by_cases h0 : 0 < j
          · have hjl : j - 1 < lst.length := by omega
            have hy? := List.getElem?_eq_getElem hjl
            obtain ⟨g2, rfl⟩ : ∃ g2, A2 = some ⟨g2, 0, none⟩ := by
              rcases HA2.out with ⟨_, h, _⟩ | ⟨g2, h, _⟩
              · rw [h] at hjl; simp at hjl
              · exact ⟨g2, h⟩
            have hcy := hown.atI hy?
            generalize lst[j - 1]'hjl = y at *
            have HY := Lib.hid hy?
            clear hy?
            have hd : decide (0 < j) = true := by simpa using h0
            have hj1 : (1 : Int) ≤ (j : Int) := by omega
            by_cases hgt : xk < y
            · have hd2 : decide (xk < y) = true := by simpa using hgt
              go_wp2_with fail
              go_quiet (fail)
              go_wp2_with fail
              go_roundg (gk - 1)
              case measure => omega
              case rel => exact ⟨j - 1, _, by omega, by go_num, by omega, by first | rfl | rw [World.drewN_drewN], HAB.out.step HY.out hgt⟩
            · have hd2 : decide (xk < y) = false := by simpa using hgt
              go_wp2_with fail
              go_quiet (fail)
              go_wp2_with fail
              go_meet
              case rel => exact ⟨j, _, rfl, hj, by first | rfl | rw [World.drewN_drewN], HAB.out, Under.of HY.out (by omega)⟩
          · have hd : decide (0 < j) = false := by simpa using h0
            go_wp2_with fail
            go_quiet (fail)
            go_wp2_with fail
            go_meet
            case rel => exact ⟨j, _, rfl, hj, by first | rfl | rw [World.drewN_drewN], HAB.out, fun h => absurd h h0⟩
      case rest =>
        obtain ⟨j, nn, rfl, hj, hwc, hab, hun⟩ := hcut
        subst hwc
        have HAB := Lib.hid hab
        have HUN := Lib.hid hun
        have hm1 := hm.drewN nn
        have hown1 := Own.later ((Mod.refl (fun _ => False) wo).drewN nn) hown
        have hlit := World.ownsRow_lit (base := 0) (size := 1) (e := 3) (wo.drewN nn) #[.int .i64 0] 1 (Nat.zero_le _) (by decide) rfl
        have HLIT := Lib.hid (Reads.of_own hlit)
        have HOWN := Lib.hid (Own.later ((Mod.refl (fun _ => False) (wo.drewN nn)).alloc (.cells #[.int .i64 0] 3)) hown1)
        have HBA := Lib.hid (fun k (e : (Value.slice A2 lst.length cap2).ownBlock = some k) => hown.base e)
        have H1C := Lib.hid (one_I 0)
        have hszm := hm1.size
        clear hab hun hlit hown1
        go_wp2_with (at_builtin
                     refine wpList_append_any _ rfl (.tmp 46) (.tmp 47) _ rfl w.heap.size 3 i0 _ 1 8 Try.underlying22 hi0 hz0 hz1 hz2 rfl (by omega) (.slice A2 lst.length cap2) lst.length (lst.flatMap encI) rfl HOWN.out _ (some ⟨(wo.drewN nn).heap.size, 0, none⟩) 1 1 [.int .i64 0] rfl HLIT.out H1C.out (by simp only [maxLen]; omega) (by omega) (Nat.le_trans hszm ((Mod.refl (fun _ => False) (wo.drewN nn)).alloc _).size) ?_
                     intro v2 w2 hown2 hgr2 hat2
                     have hown2' : Own w2 w.heap.size 3 1 encI v2 (shiftL lst lst.length) := by
                       unfold Own
                       rw [shiftL_top, flat_snoc, List.length_append]
                       exact hown2
                     obtain ⟨g2, cap3, rfl, hcap3, hg2, _⟩ := hown2'.form1 (by rw [shiftL_len (Nat.le_refl _)]; omega)
                     rw [shiftL_len (Nat.le_refl _)] at hcap3 hown2' ⊢)
        have hm2 : Mod (fun _ => False) w w2 := (hm1.alloc (.cells #[.int .i64 0] 3)).trans (Mod.ofGrown hgr2) (fun k hk e => by
          have := HBA.out k e
          omega)
        clear hgr2 HLIT HOWN HBA hown hm hm1 hcr hcell
        go_wp2_with fail
        go_loopg [9] (lst.length + 1) (fun gi q wi => ∃ i : Nat, i < gi ∧ q = .int .i64 i ∧ j ≤ i ∧ i ≤ lst.length ∧ Own wi w.heap.size 3 1 encI (.slice (some ⟨g2, 0, none⟩) (lst.length + 1) cap3) (shiftL lst i) ∧ Mod (fun _ => False) w wi)
        case atStart => exact ⟨lst.length, by omega, by go_num, hj, Nat.le_refl _, hown2', hm2⟩
        case round =>
          clear hown2' hm2
          obtain ⟨i, hgi, rfl, hji, hil, hown, hm⟩ := hrel
          obtain ⟨wi, rfl⟩ : ∃ wi : World, wi = wr := ⟨_, rfl⟩
          have hfr := hown.free i
          by_cases hgt : j < i
          · have hy? := List.getElem?_eq_getElem (show i - 1 < lst.length by omega)
            have hcy := hown.atI ((shiftL_get hil (i - 1) (by omega)).trans hy?)
            have hci := hown.atI (List.getElem?_eq_getElem (show i < (shiftL lst i).length by rw [shiftL_len hil]; omega))
            generalize lst[i - 1]'(by omega) = y at *
            have HS := Lib.hid (hown.setI (i := i) (by rw [shiftL_len hil]; omega) y)
            have HY := Lib.hid (shiftL_set (by omega) hil y hy?)
            have HM := Lib.hid (hm.setCell (p := ⟨g2, i, none⟩) (fun h => (Nat.not_lt.2 hg2 h : False)) (.int .i64 y))
            have hi1 : (1 : Int) ≤ (i : Int) := by omega
            generalize (shiftL lst i)[i]'(by rw [shiftL_len hil]; omega) = z at *
            clear hy? hown hm
            go_wp2_with fail
            go_roundg (gk - 1)
            case measure => omega
            case rel => exact ⟨i - 1, by omega, by go_num, by omega, by omega, HY.out ▸ HS.out, HM.out⟩
          · obtain rfl : i = j := by omega
            have hci := hown.atI (List.getElem?_eq_getElem (show i < (shiftL lst i).length by rw [shiftL_len hil]; omega))
            have HS := Lib.hid (hown.setI (i := i) (by rw [shiftL_len hil]; omega) xk)
            have HM := Lib.hid (hm.setCell (p := ⟨g2, i, none⟩) (fun h => (Nat.not_lt.2 hg2 h : False)) (.int .i64 xk))
            generalize (shiftL lst i)[i]'(by rw [shiftL_len hil]; omega) = z at *
            have hcr := (HB.out.mod hm (fun e => e)).cell
            obtain ⟨g', off', he', _, hcell⟩ := (HH.out.later hm (Nat.le_refl _)).atI HX.out
            obtain ⟨rfl, rfl⟩ : g = g' ∧ off = off' := by
              injection he' with e
              injection e with e1 e2
              exact ⟨e1, e2⟩
            have hng : ¬ b = g2 := by omega
            have hng2 : ¬ g = g2 := by omega
            have hnew : (insL lst i xk).Pairwise (· ≤ ·) ∧ (insL lst i xk).Perm (zs.take (k + 1)) := by
              refine ⟨insL_sorted HSO.out hil (fun h => HUN.out h (by omega)) HAB.out, (insL_perm lst i xk).trans ?_⟩
              rw [List.take_add_one, HX.out]
              exact HPE.out.append_right _
            have HNEW := Lib.hid hnew
            have HINS := Lib.hid (shiftL_ins hil xk)
            clear he' hown hm hnew
            go_wp2_with fail
            go_roundg (gout - 1)
            case measure => omega
            case rel => exact ⟨k + 1, insL lst i xk, by omega, by go_num, by omega, by rw [HAT.out], HNEW.out.1, HNEW.out.2, HINS.out ▸ HS.out, HM.out⟩
    · obtain rfl : k = zs.length := by omega
      have hper := HPE.out
      rw [List.take_length] at hper ⊢
      have HLS := Lib.hid (sortZ_unique HSO.out hper)
      have hal := allZ_perm (win := win) hper
      rw [← hal]
      have hA := HPRE.out zs.length
      rw [List.take_length, ← hal] at hA
      have hsb : ∀ z ∈ lst, 0 ≤ z ∧ z ≤ 1073741824 := fun z h => HZB.out z (hper.mem_iff.1 h)
      have HSB := Lib.hid hsb
      obtain ⟨N, hN⟩ : ∃ N : Nat, N = lev.toNat - 1 := ⟨_, rfl⟩
      have hN1 : lev - 1 = (N : Int) := by omega
      have HN := Lib.hid hN
      have hN7 : N ≤ 7 := by omega
      obtain ⟨wo, rfl⟩ : ∃ wo : World, wo = wr := ⟨_, rfl⟩
      clear hper hal hsb hN
      go_wp2_with (at_make; refine wpList_make_full _ rfl (.tmp 90) (.tmp 90) _ rfl wo.heap.size 3 i0 _ 1 Try.underlying22 hi0 hz0 hz1 .i64 .i64 (N : Int) (N : Int) N rfl rfl rfl rfl (by rw [hz2]; omega) (by simp only [maxLen]; omega) (Nat.le_refl _) ?_; intro w1 hown1 hgr1)
      rw [show (Value.int .i64 0).cells = #[Value.int .i64 0] from rfl, toList_madeCells_one] at hown1
      have hrep : ∀ n : Nat, (List.replicate n (0 : Int)).flatMap encI = List.replicate n (Value.int .i64 0) := fun n => by rw [flat_I, List.map_replicate]
      have hown1' : Own w1 wo.heap.size 3 1 encI (.slice (some ⟨wo.heap.size, 0, none⟩) N N) (cutsTo lev win lst 0 ++ List.replicate (N - 0) 0) := by
        unfold Own
        rw [show cutsTo lev win lst 0 = [] from rfl, List.nil_append, List.length_replicate, hrep, Nat.sub_zero]
        rw [Nat.mul_one] at hown1
        exact hown1
      have hm1 : Mod (fun _ => False) wo w1 := (Mod.ofGrown hgr1).mono (fun _ _ h => by cases h)
      clear hown1 hgr1 hrep hN1
      have hprod : ∀ j : Nat, j < 8 → 0 ≤ ((j : Int) + 1) * allZ win lst ∧ ((j : Int) + 1) * allZ win lst ≤ 8589934592000 := fun j hj => by
        have h0 := Int.mul_nonneg (show (0 : Int) ≤ (j : Int) + 1 by omega) hA.1
        have h1 := Int.mul_le_mul (show (j : Int) + 1 ≤ 8 by omega) hA.2 hA.1 (by omega)
        omega
      have HPROD := Lib.hid hprod
      have hpre : ∀ k, 0 ≤ allZ win (lst.take k) ∧ allZ win (lst.take k) ≤ 1073741824000 := fun k => by
        have := allZ_bd wb0 (lst.take k) (fun z h => HSB.out z (List.mem_of_mem_take h))
        have h3 : (lst.take k).length ≤ lst.length := by rw [List.length_take]; omega
        have h5 : (lst.take k).length * 1073741824 ≤ 1000 * 1073741824 := Nat.mul_le_mul_right _ (by omega)
        refine ⟨this.1, Int.le_trans this.2 (by omega)⟩
      have HPR2 := Lib.hid hpre
      clear hprod hpre
      go_wp2_with fail
      go_loopg [11] (lev.toNat) (fun gk i wq => ∃ j : Nat, i = .int .i64 ((j : Int) + 1) ∧ j ≤ N ∧ gk + j = lev.toNat ∧ Own wq wo.heap.size 3 1 encI (.slice (some ⟨wo.heap.size, 0, none⟩) N N) (cutsTo lev win lst j ++ List.replicate (N - j) 0) ∧ Mod (fun _ => False) wo wq)
      case atStart => exact ⟨0, rfl, by omega, by omega, hown1', hm1⟩
      case round =>
        clear hown1' hm1
        obtain ⟨j, rfl, hj, hgj, howq, hmq⟩ := hrel
        obtain ⟨wq, rfl⟩ : ∃ wq : World, wq = wr := ⟨_, rfl⟩
        obtain ⟨gout, rfl⟩ : ∃ n : Nat, n = gk := ⟨_, rfl⟩
        have hcq := ((HB.out.mod hm (fun e => e)).mod hmq (fun e => e)).cell
        have hlo := hown.later hmq
        have hA2 := HPROD.out j (by omega)
        have hNl := HN.out
        by_cases hjN : j < N
        · have hlt' : (j : Int) + 1 < lev := by omega
          by_cases hem : 0 < lst.length
          · have hde : decide (0 < lst.length) = true := by simpa using hem
            have hreach := reach_le (a := allZ win lst) (lev := lev) (i := j) hA.1 hlt'
            have HRE := Lib.hid hreach
            clear hreach hNl
            go_wp2_with fail
            go_loopg [12, 13] (lst.length) (fun gk s q w3 => ∃ (k : Nat) (c' : Int), gk + k = lst.length ∧ q = .int .i64 k ∧ s = .int .i64 (allZ win (lst.take k)) ∧ (0 < k → ¬ (((j : Int) + 1) * allZ win lst) / lev ≤ allZ win (lst.take k)) ∧ cutAt win ((((j : Int) + 1) * allZ win lst) / lev) lst 0 0 = cutAt win ((((j : Int) + 1) * allZ win lst) / lev) (lst.drop k) (allZ win (lst.take k)) c' ∧ w3 = wq)
            case atStart => exact ⟨0, 0, rfl, rfl, by simp [allZ], fun h => absurd h (by omega), by simp [allZ], rfl⟩
            case round =>
              obtain ⟨q, c', hgq, rfl, rfl, hnr, hcq', hw3⟩ := hrel
              obtain ⟨w3, rfl⟩ : ∃ w3 : World, w3 = wr := ⟨_, rfl⟩
              subst hw3
              have HCQ := Lib.hid hcq'
              have HNR := Lib.hid hnr
              clear hcq' hnr
              by_cases hq : q < lst.length
              · obtain ⟨g2, rfl⟩ : ∃ g2, A2 = some ⟨g2, 0, none⟩ := by
                  rcases HA2.out with ⟨_, h, _⟩ | ⟨g2, h, _⟩
                  · rw [h] at hem; simp at hem
                  · exact ⟨g2, h⟩
                have hc3 := hlo.atI (List.getElem?_eq_getElem hq)
                have ht := allZ_take (win := win) (l := lst) (k := q) hq
                have hp1 := HPR2.out q
                have hp2 := HPR2.out (q + 1)
                have hl := HSB.out _ (List.getElem_mem hq)
                have hyes := fun h => cutAt_yes (win := win) (t := (((j : Int) + 1) * allZ win lst) / lev) (s := allZ win (lst.take q)) (c := c') (l := lst) (k := q) hq h
                have hno := fun h => cutAt_no (win := win) (t := (((j : Int) + 1) * allZ win lst) / lev) (s := allZ win (lst.take q)) (c := c') (l := lst) (k := q) hq h
                rw [ht] at hp2
                have HT := Lib.hid ht
                have HY := Lib.hid hyes
                have HNO := Lib.hid hno
                have HLO := Lib.hid hlo
                clear ht hyes hno hlo
                generalize lst[q]'hq = z at *
                by_cases hT : ((j : Int) + 1) * allZ win lst / lev ≤ allZ win (lst.take q) + min z win
                · have HT2 := Lib.hid hT
                  have hlenj : j < (cutsTo lev win lst j ++ List.replicate (N - j) 0).length := by rw [List.length_append, cutsTo_len, List.length_replicate]; omega
                  have hput : Own (w3.setCell ⟨wo.heap.size, j, none⟩ (.int .i64 z)) wo.heap.size 3 1 encI (.slice (some ⟨wo.heap.size, 0, none⟩) N N) (cutsTo lev win lst (j + 1) ++ List.replicate (N - (j + 1)) 0) := by
                    have e := cuts_put (lev := lev) (win := win) (l := lst) hjN
                    rw [HCQ.out, HY.out hT] at e
                    rw [← e]
                    exact howq.setI hlenj z
                  have HPUT := Lib.hid hput
                  have HMP := Lib.hid (hmq.setCell (p := ⟨wo.heap.size, j, none⟩) (fun h => (Nat.lt_irrefl _ h : False)) (.int .i64 z))
                  have hcj := howq.atI (List.getElem?_eq_getElem hlenj)
                  have hfj := howq.free j
                  generalize (cutsTo lev win lst j ++ List.replicate (N - j) 0)[j]'hlenj = old at *
                  clear hput
                  go_wp2_with fail
                  go_roundg (gout - 1)
                  case measure => omega
                  case rel => exact ⟨j + 1, by go_num, by omega, by omega, HPUT.out, HMP.out⟩
                · have HT2 := Lib.hid hT
                  go_wp2_with fail
                  go_roundg (gk - 1)
                  case measure => omega
                  case rel => exact ⟨q + 1, z, by omega, by go_num, by rw [HT.out], (fun _ => by rw [HT.out]; exact HT2.out), by rw [HCQ.out, HNO.out HT2.out, HT.out], rfl⟩
              · exfalso
                have h1 := HNR.out (by omega)
                rw [List.take_of_length_le (by omega)] at h1
                exact h1 HRE.out
          · have hde : decide (0 < lst.length) = false := by simpa using hem
            have hfin : cutsTo lev win lst j ++ List.replicate (N - j) 0 = cutsZ lev win (sortZ zs) := by
              rw [← HLS.out]
              have h0 : lst = [] := List.eq_nil_of_length_eq_zero (by omega)
              unfold cutsZ
              rw [h0, cutsTo_nil, cutsTo_nil, ← HN.out, List.replicate_append_replicate, show j + (N - j) = N by omega]
            rw [hfin] at howq
            have HO := Lib.hid (howq.le hm.size)
            have HM := Lib.hid (hm.trans hmq (fun _ _ h => h))
            clear hfin howq
            go_wp2_with fail
            go_ret
            exact ⟨_, rfl, HO.out, HM.out⟩
        · have hfin : cutsTo lev win lst j ++ List.replicate (N - j) 0 = cutsZ lev win (sortZ zs) := by
            rw [← HLS.out]
            unfold cutsZ
            obtain rfl : j = N := by omega
            rw [Nat.sub_self, ← HN.out]
            simp
          rw [hfin] at howq
          have HO := Lib.hid (howq.le hm.size)
          have HM := Lib.hid (hm.trans hmq (fun _ _ h => h))
          clear hfin howq hNl
          have hnl : ¬ (j : Int) + 1 < lev := by have := HN.out; omega
          go_wp2_with fail
          go_ret
          exact ⟨_, rfl, HO.out, HM.out⟩
end Go.Proofs.Ytodinfadheabpaa
