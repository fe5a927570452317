/- The reference's order of messages. -/
import Derived.Test.YtigkndbkaagboaaGreatDoorSrF
import Derived.Test.YtigkndbkaagboaaGreatDoorInsP
import Derived.Test.YtigkndbkaagboaaGreatDoorSrS
import Derived.Deep.LoopGhost
import Derived.Deep.CutBlock
namespace Go.Proofs.YtigkndbkaagboaaGreatDoor
open Go.RowKit Go.Sort
set_option linter.unusedVariables false
set_option linter.unusedSimpArgs false
set_option maxHeartbeats 4000000
set_option maxRecDepth 100000
theorem Own.atJ {w : World} {B : Nat} {T : TypeId} {g n cap : Nat} {zs : List Nat} (h : Own w B T 1 encJ (.slice (some ⟨g, 0, none⟩) n cap) zs) {i : Nat} {x : Nat} (hi : zs[i]? = some x) :
    w.cell? ⟨g, i, none⟩ = some (.int .i64 (x : Int)) := by
  have := h.cell encJ_len hi (j := 0) (by omega)
  rw [Nat.mul_one, Nat.add_zero] at this
  exact this
theorem Own.setJ {w : World} {B : Nat} {T : TypeId} {g n cap : Nat} {zs : List Nat} (h : Own w B T 1 encJ (.slice (some ⟨g, 0, none⟩) n cap) zs) {i : Nat} (hi : i < zs.length) (x : Nat) :
    Own (w.setCell ⟨g, i, none⟩ (.int .i64 (x : Int))) B T 1 encJ (.slice (some ⟨g, 0, none⟩) n cap) (zs.set i x) := by
  have := h.set encJ_len (List.getElem?_eq_getElem hi) (j := 0) (by omega) (.int .i64 (x : Int)) x rfl
  rw [Nat.mul_one, Nat.add_zero] at this
  exact this
/-- From j on all go behind k; the one ahead of j does not. -/
def AboveK (born : Bool) (ms : List Ms) (l : List Nat) (j k : Nat) : Prop := ∀ i a, j ≤ i → l[i]? = some a → lt4 (keyO born ms k) (keyO born ms a)
def UnderK (born : Bool) (ms : List Ms) (l : List Nat) (j k : Nat) : Prop := ∀ a, 0 < j → l[j - 1]? = some a → ¬ lt4 (keyO born ms k) (keyO born ms a)
theorem AboveK.step {born : Bool} {ms : List Ms} {l : List Nat} {j k a : Nat} (h : AboveK born ms l j k) (ha : l[j - 1]? = some a) (hlt : lt4 (keyO born ms k) (keyO born ms a)) : AboveK born ms l (j - 1) k := fun i b hi hb => by
  rcases Nat.lt_or_ge i j with h2 | h2
  · obtain rfl : i = j - 1 := by omega
    rw [ha] at hb
    rw [← Option.some.inj hb]
    exact hlt
  · exact h i b h2 hb
theorem UnderK.of {born : Bool} {ms : List Ms} {l : List Nat} {j k a : Nat} (ha : l[j - 1]? = some a) (hlt : ¬ lt4 (keyO born ms k) (keyO born ms a)) : UnderK born ms l j k := fun b _ hb => by
  rw [ha] at hb
  rw [← Option.some.inj hb]
  exact hlt
theorem refOrdW (v : Value) (ms : List Ms) (born : Bool) (w : World) (h : Has w w.heap.size 6 encM v ms) (hl : ms.length ≤ 100000) :
    Calls Tryz.prog 86 #[v, .bool born] w fun e w' => ∃ v', e = .returned v' ∧ Own w' w.heap.size 3 1 encJ v' (orderL born ms) ∧ Mod (fun _ => False) w w' := by
  obtain ⟨i0, hi0, hz0, hz1, hz2⟩ := info_parts int_info
  obtain ⟨A, cap, rfl, hcap⟩ := h.form
  have HH := Lib.hid h
  clear h
  generalize hn : ms.length = n at *
  have HN := Lib.hid hn
  clear hn
  go_enter Tryz.func86, Tryz.ntmps86
  go_wp2_with fail
  go_loopg [5, 6] n (fun gk l i wr => ∃ (k : Nat) (lst : List Nat), gk + k = n ∧ i = .int .i64 k ∧ lst.Pairwise (fun a b => ¬ lt4 (keyO born ms b) (keyO born ms a)) ∧ lst.Perm (openTo ms k) ∧ Own wr w.heap.size 3 1 encJ l lst ∧ Mod (fun _ => False) w wr)
  case atStart => exact ⟨0, [], by omega, rfl, List.Pairwise.nil, by simp [openTo], Own.nil, Mod.refl _ _⟩
  case round =>
    obtain ⟨k, lst, hgk, rfl, hsort, hperm, hown, hm⟩ := hrel
    have hol := openTo_len ms k
    have hll : lst.length ≤ k := by rw [hperm.length_eq]; exact hol
    have hmem : ∀ x ∈ lst, ∃ m, ms[x]? = some m ∧ mayP m := fun x hx => by
      obtain ⟨m, h1, h2, _⟩ := open_mem (hperm.mem_iff.1 hx)
      exact ⟨m, h1, h2⟩
    have HSO := Lib.hid hsort
    have HPE := Lib.hid hperm
    have HME := Lib.hid hmem
    clear hsort hperm hmem hol
    obtain ⟨A2, cap2, rfl, hcap2, hA2⟩ := hown.form
    have HA2 := Lib.hid hA2
    clear hA2
    by_cases hkl : k < n
    · have hkx : k < ms.length := by rw [HN.out]; exact hkl
      have hx? := List.getElem?_eq_getElem hkx
      obtain ⟨g, off, rfl, hg, c0, c1, c2, c3, c4, c5⟩ := (HH.out.later hm (Nat.le_refl _)).atM hx?
      have hos := openTo_succ hx?
      generalize ms[k]'hkx = m at *
      have hMay := fun w' => refMayW m w'
      unfold aggM at hMay
      have HX := Lib.hid hx?
      have HOS := Lib.hid hos
      have HMAY := Lib.hid hMay
      have ik0 : (0 : Int) ≤ (k : Int) := by omega
      have ik1 : (k : Int) < (n : Int) := by omega
      clear hx? hos hMay
      obtain ⟨wo, rfl⟩ : ∃ wo : World, wo = wr := ⟨_, rfl⟩
      obtain ⟨gout, rfl⟩ : ∃ n : Nat, n = gk := ⟨_, rfl⟩
      go_wp2_with fail
      have hgw : g < wo.heap.size := Nat.lt_of_lt_of_le hg hm.size
      have l0 := fun x : Later wo => (x.mod.cell (p := ⟨g, off + k * 6, none⟩) hgw (fun e => e)).trans c0
      have l1 := fun x : Later wo => (x.mod.cell (p := ⟨g, off + k * 6 + 1, none⟩) hgw (fun e => e)).trans c1
      have l2 := fun x : Later wo => (x.mod.cell (p := ⟨g, off + k * 6 + 2, none⟩) hgw (fun e => e)).trans c2
      have l3 := fun x : Later wo => (x.mod.cell (p := ⟨g, off + k * 6 + 3, none⟩) hgw (fun e => e)).trans c3
      have l4 := fun x : Later wo => (x.mod.cell (p := ⟨g, off + k * 6 + 4, none⟩) hgw (fun e => e)).trans c4
      have l5 := fun x : Later wo => (x.mod.cell (p := ⟨g, off + k * 6 + 5, none⟩) hgw (fun e => e)).trans c5
      by_cases hmay : mayB m = true
      · have hmp := mayB_true hmay
        have hneg : (!mayB m) = false := by rw [hmay]; rfl
        have HMB := Lib.hid hmay
        rw [hmay] at HMAY
        by_cases hlt : m.hav < m.total
        · have heq : (m.hav == m.total) = false := by rw [beq_eq_false_iff_ne]; omega
          refine region_later (by kernel_rfl) (by kernel_rfl) ?_
          repeat (go_big_quiet_step ((go_at_call 129; exact later_call (HMAY.out _))))
          refine wpQuiet_nil ?_
          intro _ hw'
          obtain ⟨y, hw''⟩ := hw'
          subst hw''
          have OY := Lib.hid (hown.later y.mod)
          have MY := Lib.hid (hm.trans y.mod (fun _ _ e => e))
          clear hown hm l0 l1 l2 l3 l4 l5
          obtain ⟨w5, hw5⟩ : ∃ z : World, z = y.world := ⟨_, rfl⟩
          rw [← hw5] at OY MY ⊢
          clear hw5
          go_upto_block 2 with fail
          go_cut [7] from 36 to 50 (fun a wx => ∃ j : Nat, a = .int .i64 j ∧ j ≤ lst.length ∧ Mod (fun _ => False) w wx ∧ Own wx w.heap.size 3 1 encJ (.slice A2 lst.length cap2) lst ∧ AboveK born ms lst j k ∧ UnderK born ms lst j k)
          case first =>
            go_wp2_with fail
            go_loopg [7] (lst.length + 1) (fun gi a wi => ∃ j : Nat, j < gi ∧ a = .int .i64 j ∧ j ≤ lst.length ∧ Mod (fun _ => False) w wi ∧ Own wi w.heap.size 3 1 encJ (.slice A2 lst.length cap2) lst ∧ AboveK born ms lst j k)
            case atStart => exact ⟨lst.length, by omega, rfl, Nat.le_refl _, MY.out, OY.out, fun i a h1 h2 => by rw [List.getElem?_eq_none h1] at h2; cases h2⟩
            case round =>
              clear OY MY
              obtain ⟨j, hgi, rfl, hj, hmi, howi, hab⟩ := hrel
              have HAB := Lib.hid hab
              clear hab
              by_cases h0 : 0 < j
              · have hjl : j - 1 < lst.length := by omega
                have hy? := List.getElem?_eq_getElem hjl
                obtain ⟨g2, rfl⟩ : ∃ g2, A2 = some ⟨g2, 0, none⟩ := by
                  rcases HA2.out with ⟨_, h, _⟩ | ⟨g2, h, _⟩
                  · rw [h] at hjl; simp at hjl
                  · exact ⟨g2, h⟩
                have hcy := howi.atJ hy?
                obtain ⟨mx, hmx, hpx⟩ := HME.out _ (List.getElem_mem hjl)
                have hF := refFirstW (.slice (some ⟨g, off, none⟩) n cap) ms w.heap.size k _ m mx born wr (HH.out.later hmi (Nat.le_refl _)) hmi.size HX.out hmx hmp hpx
                rw [← keyO_eq HX.out, ← keyO_eq hmx] at hF
                generalize lst[j - 1]'hjl = z at *
                have HY := Lib.hid hy?
                have HF := Lib.hid hF
                have hj1 : (1 : Int) ≤ (j : Int) := by omega
                have HMI := Lib.hid hmi
                have HOI := Lib.hid howi
                clear hy? hF hmx hmi howi
                go_wp2_with fail
                refine HF.out.mono ?_
                rintro e w7 ⟨rfl, m7⟩
                have HM7 := Lib.hid (HMI.out.trans m7 (fun _ _ e => e))
                have HO7 := Lib.hid (HOI.out.later m7)
                clear m7 hcy
                by_cases hlt2 : lt4 (keyO born ms k) (keyO born ms z)
                · rw [show decide (lt4 (keyO born ms k) (keyO born ms z)) = true by simpa using hlt2]
                  have HL2 := Lib.hid hlt2
                  clear hlt2
                  go_wp2_with fail
                  go_roundg (gk - 1)
                  case measure => omega
                  case rel => exact ⟨j - 1, by omega, by go_num, by omega, HM7.out, HO7.out, HAB.out.step HY.out HL2.out⟩
                · rw [show decide (lt4 (keyO born ms k) (keyO born ms z)) = false by simpa using hlt2]
                  have HL2 := Lib.hid hlt2
                  clear hlt2
                  go_wp2_with fail
                  go_meet
                  case rel => exact ⟨j, rfl, hj, HM7.out, HO7.out, HAB.out, UnderK.of HY.out HL2.out⟩
              · have HMI := Lib.hid hmi
                have HOI := Lib.hid howi
                clear hmi howi
                go_wp2_with fail
                go_meet
                case rel => exact ⟨j, rfl, hj, HMI.out, HOI.out, HAB.out, fun a h _ => absurd h h0⟩
          case rest =>
            obtain ⟨j, rfl, hj, hmi, howi, hab, hun⟩ := hcut
            have HAB := Lib.hid hab
            have HUN := Lib.hid hun
            have hlit := World.ownsRow_lit (base := 0) (size := 1) (e := 3) wc #[.int .i64 0] 1 (Nat.zero_le _) (by decide) rfl
            have HLIT := Lib.hid (Reads.of_own hlit)
            have HOWN := Lib.hid (Own.later ((Mod.refl (fun _ => False) wc).alloc (.cells #[.int .i64 0] 3)) howi)
            have HBA := Lib.hid (fun k (e : (Value.slice A2 lst.length cap2).ownBlock = some k) => howi.base e)
            have H1C := Lib.hid (one_J 0)
            have hszm := hmi.size
            have hll9 : lst.length ≤ 100000 := by omega
            clear hab hun hlit howi OY MY
            go_wp2_with (at_builtin
                         refine wpList_append_any _ rfl (.tmp 51) (.tmp 52) _ rfl w.heap.size 3 i0 _ 1 8 Tryz.underlying36 hi0 hz0 hz1 hz2 rfl (by omega) (.slice A2 lst.length cap2) lst.length (lst.flatMap encJ) rfl HOWN.out _ (some ⟨wc.heap.size, 0, none⟩) 1 1 [.int .i64 0] rfl HLIT.out H1C.out (by simp only [maxLen]; omega) (by omega) (Nat.le_trans hszm ((Mod.refl (fun _ => False) wc).alloc _).size) ?_
                         intro v2 w8 hown2 hgr2 hat2
                         have hown2' : Own w8 w.heap.size 3 1 encJ v2 (Ins.shiftL 0 lst lst.length) := by
                           unfold Own
                           rw [Ins.shiftL_top, flat_snoc, List.length_append]
                           exact hown2
                         obtain ⟨g2, cap3, rfl, hcap3, hg2, _⟩ := hown2'.form1 (by rw [Ins.shiftL_len (Nat.le_refl _)]; omega)
                         rw [Ins.shiftL_len (Nat.le_refl _)] at hcap3 hown2' ⊢)
            have hm2 : Mod (fun _ => False) w w8 := (hmi.alloc (.cells #[.int .i64 0] 3)).trans (Mod.ofGrown hgr2) (fun k hk e => by
              have := HBA.out k e
              omega)
            clear hgr2 HLIT HOWN HBA hmi
            go_wp2_with fail
            go_loopg [8] (lst.length + 1) (fun gi q wi => ∃ i : Nat, i < gi ∧ q = .int .i64 i ∧ j ≤ i ∧ i ≤ lst.length ∧ Own wi w.heap.size 3 1 encJ (.slice (some ⟨g2, 0, none⟩) (lst.length + 1) cap3) (Ins.shiftL 0 lst i) ∧ Mod (fun _ => False) w wi)
            case atStart => exact ⟨lst.length, by omega, by go_num, hj, Nat.le_refl _, hown2', hm2⟩
            case round =>
              clear hown2' hm2
              obtain ⟨i, hgi, rfl, hji, hil, howi, hmi⟩ := hrel
              have hfr := howi.free i
              by_cases hgt : j < i
              · have hy? := List.getElem?_eq_getElem (show i - 1 < lst.length by omega)
                have hcy := howi.atJ ((Ins.shiftL_get hil (i - 1) (by omega)).trans hy?)
                have hci := howi.atJ (List.getElem?_eq_getElem (show i < (Ins.shiftL 0 lst i).length by rw [Ins.shiftL_len hil]; omega))
                generalize lst[i - 1]'(by omega) = z at *
                have HS := Lib.hid (howi.setJ (i := i) (by rw [Ins.shiftL_len hil]; omega) z)
                have HY := Lib.hid (Ins.shiftL_set (z := 0) (by omega) hil z hy?)
                have HM := Lib.hid (hmi.setCell (p := ⟨g2, i, none⟩) (fun h => (Nat.not_lt.2 hg2 h : False)) (.int .i64 (z : Int)))
                have hi1 : (1 : Int) ≤ (i : Int) := by omega
                generalize (Ins.shiftL 0 lst i)[i]'(by rw [Ins.shiftL_len hil]; omega) = u at *
                clear hy? howi hmi
                go_wp2_with fail
                go_roundg (gk - 1)
                case measure => omega
                case rel => exact ⟨i - 1, by omega, by go_num, by omega, by omega, HY.out ▸ HS.out, HM.out⟩
              · obtain rfl : i = j := by omega
                have hci := howi.atJ (List.getElem?_eq_getElem (show i < (Ins.shiftL 0 lst i).length by rw [Ins.shiftL_len hil]; omega))
                have HS := Lib.hid (howi.setJ (i := i) (by rw [Ins.shiftL_len hil]; omega) k)
                have HM := Lib.hid (hmi.setCell (p := ⟨g2, i, none⟩) (fun h => (Nat.not_lt.2 hg2 h : False)) (.int .i64 (k : Int)))
                generalize (Ins.shiftL 0 lst i)[i]'(by rw [Ins.shiftL_len hil]; omega) = u at *
                have hnew : (Ins.insL lst i k).Pairwise (fun a b => ¬ lt4 (keyO born ms b) (keyO born ms a)) ∧ (Ins.insL lst i k).Perm (openTo ms (k + 1)) := by
                  refine ⟨Ins.insL_sorted (R := fun a b => ¬ lt4 (keyO born ms b) (keyO born ms a)) (fun a b c h1 h2 => lt4_not h2 h1) (fun a => lt4_irrefl (keyO born ms a)) HSO.out hil (fun a h ha => HUN.out a h ha) (fun q a hq ha => lt4_asymm (HAB.out q a hq ha)), (Ins.insL_perm lst i k).trans ?_⟩
                  rw [HOS.out, if_pos (by simp [HMB.out, hlt])]
                  exact HPE.out.append_right _
                have HNEW := Lib.hid hnew
                have HINS := Lib.hid (Ins.shiftL_ins (z := 0) hil k)
                clear howi hmi hnew
                go_wp2_with fail
                go_roundg (gout - 1)
                case measure => omega
                case rel => exact ⟨k + 1, Ins.insL lst i k, by omega, by go_num, HNEW.out.1, HNEW.out.2, HINS.out ▸ HS.out, HM.out⟩
        · have heq : (m.hav == m.total) = true := by rw [beq_iff_eq]; have := hmp.2.1; have := hmp.2.2.1; omega
          refine region_later (by kernel_rfl) (by kernel_rfl) ?_
          repeat (go_big_quiet_step ((go_at_call 129; exact later_call (HMAY.out _))))
          refine wpQuiet_nil ?_
          intro _ hw'
          obtain ⟨y, hw''⟩ := hw'
          subst hw''
          have OY := Lib.hid (hown.later y.mod)
          have MY := Lib.hid (hm.trans y.mod (fun _ _ e => e))
          clear hown hm l0 l1 l2 l3 l4 l5
          go_wp2_with fail
          go_roundg (gout - 1)
          case measure => omega
          case rel => exact ⟨k + 1, lst, by omega, by go_num, HSO.out, by rw [HOS.out, if_neg (by simp [hlt])]; exact HPE.out, OY.out, MY.out⟩
      · have hmay : mayB m = false := by simpa using hmay
        have hneg : (!mayB m) = true := by rw [hmay]; rfl
        have HMB := Lib.hid hmay
        rw [hmay] at HMAY
        refine region_later (by kernel_rfl) (by kernel_rfl) ?_
        repeat (go_big_quiet_step ((go_at_call 129; exact later_call (HMAY.out _))))
        refine wpQuiet_nil ?_
        intro _ hw'
        obtain ⟨y, hw''⟩ := hw'
        subst hw''
        have OY := Lib.hid (hown.later y.mod)
        have MY := Lib.hid (hm.trans y.mod (fun _ _ e => e))
        clear hown hm l0 l1 l2 l3 l4 l5
        go_wp2_with fail
        go_roundg (gout - 1)
        case measure => omega
        case rel => exact ⟨k + 1, lst, by omega, by go_num, HSO.out, by rw [HOS.out, if_neg (by simp [HMB.out])]; exact HPE.out, OY.out, MY.out⟩
    · have hkn : k = n := by omega
      have hord : lst = orderL born ms := order_unique HSO.out (by unfold openL; rw [HN.out, ← hkn]; exact HPE.out)
      rw [hord] at hown
      have HO := Lib.hid hown
      have HM := Lib.hid hm
      clear hown hm hkn
      have hll2 := order_len born ms
      rw [hord]
      go_wp2_with fail
      go_ret
      exact ⟨_, rfl, HO.out, HM.out⟩
end Go.Proofs.YtigkndbkaagboaaGreatDoor
