/- A table of *mizzen/reasm.Buf: its keys, in order. -/
import Derived.Test.YtddnlbkocmpffaaZG5
import Derived.Test.YtddnlbkocmpffaaZCmpW
import Derived.Test.YtddnlbkocmpffaaZG6
import Derived.Test.YtddnlbkocmpffaaZTbShelf
namespace Go.Proofs.Ytddnlbkocmpffaa.TabBuf
open Go.RowKit Go.Sort Go.Shelf
set_option linter.unusedVariables false
set_option maxHeartbeats 4000000
set_option maxRecDepth 100000
attribute [local go_sem ↓] Go.wp_at_zero Go.wp_at_succ
/-- A key's cells. -/
def encKy (k : Int × Int) : List Value := [.int .i64 k.1, .int .u64 k.2]
theorem encKy_len (k : Int × Int) : (encKy k).length = 2 := rfl
theorem one_Ky (k : Int × Int) : ∀ y ∈ encKy k, y.oneCell' = true := fun y hy => by
  simp [encKy] at hy
  rcases hy with rfl | rfl <;> rfl
theorem key_info : (Try.prog.info? 92).map (fun i => (i.zero, i.size, i.bytes)) = some (some (.agg #[.int .i64 0, .int .u64 0]), 2, 16) := by kernel_rfl
theorem ltKy (x y : Int × Int) : ltOf cmpKy x y = decide (ltK x y) := by
  unfold ltOf
  exact decide_eq_decide.2 (cmpKy_neg _ _)
theorem swoKy : SWO (ltOf cmpKy) where
  irrefl x := by rw [ltKy]; simpa using ltK_irrefl _
  trans x y z h1 h2 := by
    rw [ltKy] at *
    simp only [decide_eq_true_eq] at *
    exact ltK_trans h1 h2
  ntrans x y z h1 h2 := by
    rw [ltKy] at *
    simp only [decide_eq_false_iff_not] at *
    exact ltK_not h1 h2
theorem totKy (x y : Int × Int) (h1 : ltOf cmpKy x y = false) (h2 : ltOf cmpKy y x = false) : x = y := by
  rw [ltKy] at *
  simp only [decide_eq_false_iff_not] at *
  exact ltK_tot h1 h2
/-- The closure that compares. -/
theorem keyFnW (p i q j : Int) (w : World) :
    Calls Try.prog 75 #[.agg #[.int .i64 p, .int .u64 i], .agg #[.int .i64 q, .int .u64 j]] w fun e w' => e = .returned (.int .i64 (cmpKy (p, i) (q, j))) ∧ Grw w w' := by
  unfold cmpKy
  simp only
  have hx : Blk ((w.alloc (.cells #[.int .i64 p, .int .u64 i] 92)).alloc (.cells #[.int .i64 q, .int .u64 j] 92)) w.heap.size 92 #[.int .i64 p, .int .u64 i] := (Blk.new w _ _).old _
  have hy : Blk ((w.alloc (.cells #[.int .i64 p, .int .u64 i] 92)).alloc (.cells #[.int .i64 q, .int .u64 j] 92)) (w.heap.size + 1) 92 #[.int .i64 q, .int .u64 j] := Blk.newAt (by simp) _ _
  have hgr : Grw w ((w.alloc (.cells #[.int .i64 p, .int .u64 i] 92)).alloc (.cells #[.int .i64 q, .int .u64 j] 92)) := ((Grw.refl w).alloc _).alloc _
  generalize hwc : (w.alloc (.cells #[.int .i64 p, .int .u64 i] 92)).alloc (.cells #[.int .i64 q, .int .u64 j] 92) = wc at *
  have HWC := Lib.hid hwc
  have HX := Lib.hid hx
  have HY := Lib.hid hy
  have HGR := Lib.hid hgr
  clear hwc hx hy hgr
  go_enter Try.func75, Try.ntmps75
  go_upto_region 1 with fail
  rw [HWC.out]
  have hcx := HX.out.cell
  have hcy := HY.out.cell
  clear HX HY
  generalize w.heap.size = b at *
  refine region_quiet_tail 10 (by kernel_rfl) (by kernel_rfl) ?_
  simp only [List.take_succ_cons, List.take_zero, List.drop_succ_cons, List.drop_zero]
  repeat (go_big_quiet_step (first | (go_at_call 77; refine (compareI _ _ _).mono ?_; rintro e w' ⟨rfl, rfl⟩; exact ⟨rfl, _, rfl⟩) | (go_at_call 72; refine (compareU _ _ _).mono ?_; rintro e w' ⟨rfl, rfl⟩; exact ⟨rfl, _, rfl⟩)))
  refine wpQuiet_nil ?_
  intro _ hw'
  obtain ⟨nq, hw''⟩ := hw'
  subst hw''
  have hlit : ∀ r1 r2 : Int, Own (wc.alloc (.cells #[.int .i64 r1, .int .i64 r2] 3)) 0 3 1 encI (.slice (some ⟨wc.heap.size, 0, none⟩) 2 2) [r1, r2] := fun r1 r2 => World.ownsRow_lit (base := 0) (size := 1) (e := 3) wc #[.int .i64 r1, .int .i64 r2] 2 (Nat.zero_le _) (by decide) rfl
  have HL := Lib.hid fun r1 r2 => (hlit r1 r2).has.drewN nq
  clear hlit
  go_wp2_with (go_at_call 76; refine (orW _ [_, _] _ _ (HL.out _ _) (by simp)).mono ?_; rintro e w' ⟨rfl, rfl⟩)
  go_ret
  exact ⟨rfl, (HGR.out.alloc _).drewN nq⟩
theorem keysNone (w : World) :
    Calls Try.prog 54 #[.pointer none] w fun e w' => e = .returned (.slice none 0 0) ∧ w = w' := by
  go_enter Try.func54, Try.ntmps54
  go_wp2
  go_ret
  exact ⟨rfl, rfl⟩
theorem keysW (bt bs : Nat) (most n : Int) (s : List (Option ((Int × Int) × Nat))) (w : World) (h : Mem w bt bs most n s) (hL : s.length ≤ 400008) :
    Calls Try.prog 54 #[.pointer (some ⟨bt, 0, none⟩)] w fun e w' => ∃ v, e = .returned v ∧ Own w' w.heap.size 92 2 encKy v (sortKs (keysOf s)) ∧ Mod (fun _ => False) w w' := by
  obtain ⟨i0, hi0, hz0, hz1, hz2⟩ := info_parts key_info
  have hc := h.top.cell
  have HH := Lib.hid h
  have hlts := h.row.lt
  clear h
  generalize hn : s.length = L at *
  have HN := Lib.hid hn
  clear hn
  go_enter Try.func54, Try.ntmps54
  go_wp2_with fail
  go_loopw [2, 12] (fun o i wr => ∃ j : Nat, i = .int .i64 j ∧ j ≤ L ∧ Own wr w.heap.size 92 2 encKy o (keysOf (s.take j)) ∧ Mod (fun _ => False) w wr) (fun _ i _ => L - (intOf i).toNat)
  case atStart => exact ⟨0, rfl, by omega, Own.nil, Mod.refl _ _⟩
  case round =>
    clear hc
    obtain ⟨j, rfl, hj, hown, hm⟩ := hrel
    by_cases hjL : j < L
    · have hjs : j < s.length := by rw [HN.out]; exact hjL
      have hmem := HH.out.mod hm (fun e => e) (fun e => e)
      obtain ⟨s0, s1, s2, s3⟩ := hmem.slot hjs
      have htk : s.take (j + 1) = s.take j ++ [s[j]] := List.take_succ_eq_append_getElem hjs
      have hat : Tab.at_ s j = s[j] := by unfold Tab.at_; rw [List.getElem?_eq_getElem hjs]; rfl
      have hks := keys_snoc (s.take j) s[j]
      rw [← htk, ← hat] at hks
      have hkl := List.length_filterMap_le (fun o : Option ((Int × Int) × Nat) => o.map Prod.fst) (s.take j)
      rw [show (s.take j).filterMap (fun o => o.map Prod.fst) = keysOf (s.take j) from rfl] at hkl
      have hlt : (s.take j).length ≤ j := by rw [List.length_take]; omega
      have hgs : bs < wr.heap.size := hmem.row.lt
      clear htk hmem
      cases hA : Tab.at_ s j with
      | none =>
        rw [hA] at s0 s1 s2 s3 hks hat
        simp only [enc, List.getElem?_cons_zero, List.getElem?_cons_succ, List.append_nil] at s0 s1 s2 s3 hks
        have HKS := Lib.hid hks
        have HO := Lib.hid hown
        have HM := Lib.hid hm
        clear hks hown hm hA hat
        go_wp2_with fail
        go_roundw
        case rel => exact ⟨j + 1, by go_num, by omega, by rw [HKS.out]; exact HO.out.later ((Mod.refl _ _).alloc _), HM.out.alloc _⟩
        case measure => simp [intOf]; omega
      | some y =>
        obtain ⟨⟨p, i⟩, x⟩ := y
        rw [hA] at s0 s1 s2 s3 hks hat
        simp only [enc, List.getElem?_cons_zero, List.getElem?_cons_succ] at s0 s1 s2 s3 hks
        obtain ⟨Ao, co, rfl, hco, -⟩ := hown.form
        have hrow : wr.ownsRow w.heap.size 92 2 (.slice Ao (keysOf (s.take j)).length co) (keysOf (s.take j)).length ((keysOf (s.take j)).flatMap encKy) := hown
        have hbase : ∀ z, (Value.slice Ao (keysOf (s.take j)).length co).ownBlock = some z → w.heap.size ≤ z := fun z e => hown.base e
        have HRW := Lib.hid (own_mod (((Mod.refl (fun _ => False) wr).alloc (.cells #[.bool true, .int .i64 p, .int .u64 i, .pointer (some ⟨x, 0, none⟩)] 144)).alloc (.cells #[.int .i64 p, .int .u64 i] 92)) hrow (fun _ _ e => e))
        have hlit := World.ownsRow_lit (base := 0) (size := 2) (e := 92) (wr.alloc (.cells #[.bool true, .int .i64 p, .int .u64 i, .pointer (some ⟨x, 0, none⟩)] 144)) #[.int .i64 p, .int .u64 i] 1 (Nat.zero_le _) (by decide) rfl
        have hsz1 : (wr.alloc (.cells #[.bool true, .int .i64 p, .int .u64 i, .pointer (some ⟨x, 0, none⟩)] 144)).heap.size = wr.heap.size + 1 := by simp
        rw [hsz1] at hlit
        have HLIT := Lib.hid (Reads.of_own hlit)
        have hszr := hm.size
        have HM := Lib.hid hm
        have HBA := Lib.hid hbase
        have HKS := Lib.hid hks
        have hkl' : (keysOf (s.take j)).length ≤ 400008 := by omega
        generalize hkk : keysOf (s.take j) = kk at *
        clear hlit hrow hbase hown hm hks hsz1 hA hat
        go_wp2_with (at_builtin
                     refine wpList_append_any _ rfl (.tmp 18) (.tmp 21) _ rfl w.heap.size 92 i0 _ 2 16 Try.underlying113 hi0 hz0 hz1 hz2 rfl (by omega) (.slice Ao kk.length co) kk.length (kk.flatMap encKy) rfl HRW.out _ (some ⟨wr.heap.size + 1, 0, none⟩) 1 1 [.int .i64 p, .int .u64 i] rfl HLIT.out (one_Ky (p, i)) (by simp only [maxLen]; omega) (by omega) (by simp; omega) ?_
                     intro v2 w9 hown2 hgr2 hat2
                     have hown3 : Own w9 w.heap.size 92 2 encKy v2 (keysOf (s.take (j + 1))) := by
                       unfold Own
                       rw [HKS.out, flat_snoc, List.length_append]
                       exact hown2
                     have m9 := ((HM.out.alloc (.cells #[.bool true, .int .i64 p, .int .u64 i, .pointer (some ⟨x, 0, none⟩)] 144)).alloc (.cells #[.int .i64 p, .int .u64 i] 92)).trans (Mod.ofGrown hgr2) (fun q hq e => by have := HBA.out q e; omega)
                     have M9 := Lib.hid m9
                     have HO9 := Lib.hid hown3
                     clear hown2 hgr2 hat2 hown3 m9)
        go_wp2_with fail
        go_roundw
        case rel => exact ⟨j + 1, by go_num, by omega, HO9.out, M9.out⟩
        case measure => simp [intOf]; omega
    · obtain rfl : L = j := by omega
      have htk : s.take L = s := List.take_of_length_le (by rw [HN.out]; exact Nat.le_refl _)
      rw [htk] at hown
      obtain ⟨wE, rfl⟩ : ∃ z : World, z = wr := ⟨_, rfl⟩
      have hkl := List.length_filterMap_le (fun o : Option ((Int × Int) × Nat) => o.map Prod.fst) s
      rw [show s.filterMap (fun o => o.map Prod.fst) = keysOf s from rfl, HN.out] at hkl
      obtain ⟨kk, hkk⟩ : ∃ z, keysOf s = z := ⟨_, rfl⟩
      rw [hkk] at hown hkl
      have HKK := Lib.hid hkk
      clear hkk
      have hsl := sortKs_len kk
      obtain ⟨Ao, co, rfl, hco, hA⟩ := hown.form
      have HM := Lib.hid hm
      by_cases hk0 : kk.length = 0
      · have hS := AnyF.slices_SortFunc_none Try.sortKy Ao co (.func (.func 75) #[] #[]) wE
        change Calls Try.prog 74 _ _ _ at hS
        have hnil : kk = [] := List.eq_nil_of_length_eq_zero hk0
        subst hnil
        have HS := Lib.hid hS
        have HO := Lib.hid hown
        clear hS hown hm hk0 hA hco hkl hsl
        go_wp2_with fail
        refine HS.out.mono ?_
        rintro e w' ⟨rfl, rfl⟩
        go_wp2_with fail
        go_ret
        exact ⟨_, rfl, by rw [HKK.out, show sortKs [] = [] from List.mergeSort_nil]; exact HO.out, HM.out⟩
      · obtain ⟨g, rfl, hg, hgl⟩ : ∃ g, Ao = some ⟨g, 0, none⟩ ∧ w.heap.size ≤ g ∧ g < wE.heap.size := by
          rcases hA with ⟨_, h, _⟩ | h
          · rw [h] at hk0; exact absurd rfl hk0
          · exact h
        have hatt : Own wE w.heap.size 92 2 encKy (.slice (some ⟨g, 0, none⟩) kk.length co) kk.toArray.toList := by
          rw [List.toList_toArray]
          exact hown
        have hS := AnyQ.slices_SortFunc_total Try.sortKy 2 Try.isAgg92 Try.sizeOf92 encKy encKy_len one_Ky cmpKy swoKy 75 #[] g 0 co kk.toArray wE (enters_of Try.func75 (by kernel_rfl) rfl)
          (fun m os dk hdk x y => (keyFnW x.1 x.2 y.1 y.2 _).mono fun e w' ⟨he, q, os', hw⟩ => ⟨he, q, os', hw⟩)
          (hatt.holdsK encKy_len) hgl (by simp; omega) totKy
        change Calls Try.prog 74 _ _ _ at hS
        rw [show kk.toArray.size = kk.length from rfl, List.toList_toArray] at hS
        have hms : (kk.mergeSort fun x y => !(ltOf cmpKy) y x) = sortKs kk := by
          unfold sortKs
          congr 1
          funext x y
          rw [ltKy]
        rw [hms] at hS
        have HS := Lib.hid hS
        have HATT := Lib.hid hatt
        clear hS hatt hown hm hA hms
        go_wp2_with fail
        refine HS.out.mono ?_
        rintro e w3 ⟨rfl, n3, os, hw3⟩
        have hfin : Own w3 w.heap.size 92 2 encKy (.slice (some ⟨g, 0, none⟩) kk.length co) (sortKs kk) := by
          rw [hw3]
          have := HATT.out.sortedK encKy_len (m := n3) (os := os) (d' := (sortKs kk).toArray) (by simp [hsl])
          rw [List.toList_toArray] at this
          exact this
        have hm3 : Mod (fun _ => False) w w3 := HM.out.trans (by rw [hw3]; exact sortK_mod _) (fun q hq e => by omega)
        have HF := Lib.hid hfin
        have HM3 := Lib.hid hm3
        clear hw3 hfin hm3
        go_wp2_with fail
        go_ret
        exact ⟨_, rfl, by rw [HKK.out]; exact HF.out, HM3.out⟩
theorem keysT (bt bs : Nat) (most n : Int) (m : Int × Int → Option (Nat)) (w : World) (h : Tb w bt bs most n m) :
    Calls Try.prog 54 #[.pointer (some ⟨bt, 0, none⟩)] w fun e w' => ∃ v ks, e = .returned v ∧ Own w' w.heap.size 92 2 encKy v ks ∧ ks.Pairwise ltK ∧ (∀ k, k ∈ ks ↔ (m k).isSome = true) ∧ (ks.length : Int) = n ∧ Mod (fun _ => False) w w' := by
  obtain ⟨s, h0, h1, h2, h3, h4, h5, h6, h7, h8, h9, h10⟩ := h
  refine (keysW bt bs most n s w h0 h5).mono ?_
  rintro e w' ⟨v, rfl, ho, hm⟩
  refine ⟨v, _, rfl, ho, sortKs_sorted (keys_nodup h1.once), fun k => ?_, by rw [sortKs_len, keys_len]; exact h2, hm⟩
  rw [sortKs_mem, keys_mem, Option.isSome_iff_exists]
  exact ⟨fun ⟨x, hx⟩ => ⟨x, (h10 k x).1 hx⟩, fun ⟨x, hx⟩ => ⟨x, (h10 k x).2 hx⟩⟩
end Go.Proofs.Ytddnlbkocmpffaa.TabBuf
