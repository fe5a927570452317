/- The walk of CutoffRises. -/
import Derived.Test.YtodinfadheabpaaCutF
import Derived.Deep.LoopGhost
import Derived.Deep.CutBlock
namespace Go.Proofs.Ytodinfadheabpaa
open Go.ChangeShapes Go.WideShapes Go.RowKit Go.Shelf
set_option linter.unusedVariables false
set_option maxHeartbeats 8000000
set_option maxRecDepth 100000
theorem cutsTo_get {lev win : Int} {l : List Int} {j i : Nat} (h : i < j) : (cutsTo lev win l j)[i]? = some (cutAt win ((((i : Int) + 1) * allZ win l) / lev) l 0 0) := by
  unfold cutsTo
  rw [List.getElem?_map, List.getElem?_range h]
  rfl
/-- The cuts rise. -/
theorem cuts_rise {lev win : Int} {zs : List Int} (hl : 1 ≤ lev) (hw : 0 ≤ win) (hz : ∀ z ∈ zs, 0 ≤ z ∧ z ≤ 1073741824) {i : Nat} {x y : Int} (hi : 0 < i) (hy : (cutsZ lev win (sortZ zs))[i - 1]? = some y) (hx : (cutsZ lev win (sortZ zs))[i]? = some x) : y ≤ x := by
  have hil : i < lev.toNat - 1 := by
    have h1 := (List.getElem?_eq_some_iff.1 hx).1
    rw [cutsZ_len] at h1
    exact h1
  unfold cutsZ at hx hy
  rw [cutsTo_get hil] at hx
  rw [cutsTo_get (by omega)] at hy
  rw [← Option.some.inj hx, ← Option.some.inj hy]
  have hs : ∀ z ∈ sortZ zs, 0 ≤ z ∧ z ≤ 1073741824 := fun z h => hz z ((sortZ_perm zs).mem_iff.1 h)
  have ha := (allZ_bd hw (sortZ zs) hs).1
  refine (cutAt_mono (win := win) ?_ (sortZ zs) 0 0 (List.pairwise_cons.2 ⟨fun a h => (hs a h).1, sortZ_sorted zs⟩)).2
  refine Int.ediv_le_ediv (by omega) (Int.mul_le_mul_of_nonneg_right (by omega) ha)
/-- Each cut is one of the sizes. -/
theorem cuts_met {lev win : Int} {zs : List Int} {i : Nat} {x : Int} (hx : (cutsZ lev win (sortZ zs))[i]? = some x) : (zs = [] ∧ x = 0) ∨ x ∈ zs := by
  have hil : i < lev.toNat - 1 := by
    have h1 := (List.getElem?_eq_some_iff.1 hx).1
    rw [cutsZ_len] at h1
    exact h1
  unfold cutsZ at hx
  rw [cutsTo_get hil] at hx
  rw [← Option.some.inj hx]
  rcases cutAt_mem win ((((i : Int) + 1) * allZ win (sortZ zs)) / lev) (sortZ zs) 0 0 with h | ⟨h1, h2⟩
  · exact .inr ((sortZ_perm zs).mem_iff.1 h)
  · left
    refine ⟨?_, h2⟩
    have := (sortZ_perm zs).length_eq
    rw [h1] at this
    exact List.eq_nil_of_length_eq_zero this.symm
theorem cntZ_mono {cuts : List Int} {a b : Int} (h : a ≤ b) : cntZ cuts a ≤ cntZ cuts b := by
  unfold cntZ
  induction cuts with
  | nil => exact Nat.le_refl _
  | cons c cuts ih =>
    simp only [List.filter_cons]
    by_cases h1 : c < a
    · have h2 : c < b := by omega
      simp only [h1, h2, decide_true, if_true, List.length_cons]
      omega
    · by_cases h2 : c < b
      · simp only [h1, h2, decide_true, decide_false, if_true, List.length_cons]
        have : ¬ (false = true) := by decide
        rw [if_neg this]
        omega
      · simp only [h1, h2, decide_false]
        have : ¬ (false = true) := by decide
        rw [if_neg this, if_neg this]
        exact ih
theorem walk_risesNo (lev : Int) (A : Option Addr) (n cap : Nat) (win a b : Int) (w : World) (hn : lev < 1 ∨ (1 ≤ lev ∧ 8 < lev) ∨ (1 ≤ lev ∧ lev ≤ 8 ∧ 60 < n) ∨ (1 ≤ lev ∧ lev ≤ 8 ∧ n ≤ 60 ∧ win < 0)) :
    Calls Try.prog 4 #[.int .i64 lev, .slice A n cap, .int .i64 win, .int .i64 a, .int .i64 b] w fun e w' => e = .returned (.bool true) ∧ Mod (fun _ => False) w w' := by
  rcases hn with h1 | ⟨h1, h2⟩ | ⟨h1, h2, h3⟩ | ⟨h1, h2, h3, h4⟩
  · go_enter Try.func4, Try.ntmps4
    go_wp2_with fail
    refine (awakeW _).mono ?_
    rintro e w1 ⟨rfl, m1⟩
    go_wp2_with fail
    go_ret
    exact ⟨rfl, m1⟩
  · go_enter Try.func4, Try.ntmps4
    go_wp2_with fail
    refine (awakeW _).mono ?_
    rintro e w1 ⟨rfl, m1⟩
    go_wp2_with fail
    go_ret
    exact ⟨rfl, m1⟩
  · have q1 : (60 : Int) < (n : Int) := by omega
    go_enter Try.func4, Try.ntmps4
    go_wp2_with fail
    refine (awakeW _).mono ?_
    rintro e w1 ⟨rfl, m1⟩
    go_wp2_with fail
    go_ret
    exact ⟨rfl, m1⟩
  · have q1 : (n : Int) ≤ 60 := by omega
    go_enter Try.func4, Try.ntmps4
    go_wp2_with fail
    refine (awakeW _).mono ?_
    rintro e w1 ⟨rfl, m1⟩
    go_wp2_with fail
    go_ret
    exact ⟨rfl, m1⟩
theorem walk_risesIn (lev : Int) (v : Value) (xs : List Int) (win a b : Int) (w : World) (hx : Ints w v xs) (h1 : 1 ≤ lev) (h2 : lev ≤ 8) (hl : xs.length ≤ 60) (hw : 0 ≤ win) :
    Calls Try.prog 4 #[.int .i64 lev, v, .int .i64 win, .int .i64 a, .int .i64 b] w fun e w' => e = .returned (.bool true) ∧ Mod (fun _ => False) w w' := by
  obtain ⟨hx, _, _⟩ := hx
  obtain ⟨A, cap, rfl, hcap⟩ := hx.form
  generalize hn : xs.length = n at *
  have HN := Lib.hid hn
  have HX := Lib.hid hx
  clear hx hn
  go_enter Try.func4, Try.ntmps4
  go_wp2_with fail
  refine (cnewW lev 100 _ h1 h2 (by omega) (by omega)).mono ?_
  rintro e w1 ⟨rfl, t1, m1⟩
  obtain ⟨bb, hb⟩ : ∃ b, b = w.heap.size := ⟨_, rfl⟩
  rw [← hb] at t1 ⊢
  have HBB := Lib.hid hb
  have t0 : Mt w1 bb none lev 100 (keptZ 100 (xs.take 0)) := by
    rw [List.take_zero, keptZ_nil]
    exact t1
  have T0 := Lib.hid t0
  have M1 := Lib.hid m1
  clear hb t0 t1 m1
  go_wp2_with fail
  go_loopw [13] (fun i wr => ∃ (k : Nat) (g1 : Option Nat), i = .int .i64 k ∧ k ≤ n ∧ Mt wr bb g1 lev 100 (keptZ 100 (xs.take k)) ∧ Mod (fun _ => False) w wr ∧ ∀ q, g1 = some q → w.heap.size ≤ q) (fun i _ => n - (intOf i).toNat)
  case atStart => exact ⟨0, none, rfl, by omega, T0.out, M1.out, fun q h => by cases h⟩
  case round =>
    clear T0 M1
    obtain ⟨k, g1, rfl, hk, t4, m4, f4⟩ := hrel
    by_cases hkl : k < n
    · have hkx : k < xs.length := by rw [HN.out]; exact hkl
      have hx? := List.getElem?_eq_getElem hkx
      obtain ⟨g, off, rfl, hg, hcell⟩ := (HX.out.later m4 (Nat.le_refl _)).atI hx?
      have hsn : xs.take (k + 1) = xs.take k ++ [xs[k]] := List.take_succ_eq_append_getElem hkx
      generalize xs[k]'hkx = x at *
      have hks : (keptZ 100 (xs.take k)).length ≤ (100 : Int).toNat := by rw [keptZ_len]; omega
      have hmz := keptZ_snoc (most := 100) (by omega) (xs.take k) x
      rw [← hsn] at hmz
      have HMZ := Lib.hid hmz
      clear hmz hsn hx?
      generalize keptZ 100 (xs.take k) = zs at *
      go_wp2_with fail
      refine (addW bb g1 lev 100 x zs _ t4 (by omega) (by omega) hks).mono ?_
      rintro e w5 ⟨rfl, g1', t5, f5, m5⟩
      rw [HMZ.out] at t5
      have m6 : Mod (fun _ => False) w w5 := m4.trans m5 (fun q hq e => by
        have := HBB.out
        rcases e with e | e
        · omega
        · have := f4 q e
          omega)
      have hf : ∀ q, g1' = some q → w.heap.size ≤ q := fun q h => by
        have := f5 q h
        have := m4.size
        omega
      have T5 := Lib.hid t5
      have M6 := Lib.hid m6
      have HF := Lib.hid hf
      clear t4 m4 f4 t5 f5 m5 m6 hf hcell
      go_wp2_with fail
      go_roundw
      case rel => exact ⟨k + 1, g1', by go_num, by omega, T5.out, M6.out, HF.out⟩
      case measure => simp [intOf]; omega
    · obtain rfl : n = k := by omega
      rw [← HN.out, List.take_length, keptZ_all (by rw [HN.out]; omega)] at t4
      have hzb : ∀ z ∈ xs.map fun x => clampZ x 0 1073741824, 0 ≤ z ∧ z ≤ 1073741824 := fun z hz => by
        obtain ⟨x, _, rfl⟩ := List.mem_map.1 hz
        exact clampZ_bd x _ _ (by omega)
      have hzl : (xs.map fun x => clampZ x 0 1073741824).length ≤ 60 := by rw [List.length_map, HN.out]; exact hl
      have hcw := cutsW bb g1 lev 100 win (xs.map fun x => clampZ x 0 1073741824) wr t4 h1 h2 (by omega) hzb
      have hpa : ∀ (w' : World) (s : Int), Mt w' bb g1 lev 100 (xs.map fun x => clampZ x 0 1073741824) → Calls Try.prog 13 #[.pointer (some ⟨bb, 0, none⟩), .int .i64 s, .int .i64 win] w' fun e w2 => e = .returned (.int .i64 (7 - cntZ (cutsZ lev (clampZ win 0 1073741824) (sortZ (xs.map fun x => clampZ x 0 1073741824))) s)) ∧ Mod (fun _ => False) w' w2 := fun w' s t => prioW bb g1 lev 100 s win _ w' t h1 h2 (by omega) hzb
      have hwb : 0 ≤ clampZ win 0 1073741824 := (clampZ_bd win _ _ (by omega)).1
      have hrise := fun (i : Nat) (x y : Int) => cuts_rise (lev := lev) (win := clampZ win 0 1073741824) (zs := xs.map fun x => clampZ x 0 1073741824) h1 hwb hzb (i := i) (x := x) (y := y)
      have hmet := fun (i : Nat) (x : Int) => cuts_met (lev := lev) (win := clampZ win 0 1073741824) (zs := xs.map fun x => clampZ x 0 1073741824) (i := i) (x := x)
      have hcl := cutsZ_len lev (clampZ win 0 1073741824) (sortZ (xs.map fun x => clampZ x 0 1073741824))
      generalize cutsZ lev (clampZ win 0 1073741824) (sortZ (xs.map fun x => clampZ x 0 1073741824)) = cuts at *
      have hcl1 : (cuts.length : Int) = lev - 1 := by omega
      have hcl7 : cuts.length ≤ 7 := by omega
      have hne : ((cuts.length : Int) != lev - 1) = false := by simp [hcl1]
      have HCW := Lib.hid hcw
      have HPA := Lib.hid hpa
      have HRI := Lib.hid hrise
      have HME := Lib.hid hmet
      have HCL := Lib.hid hcl1
      have T4 := Lib.hid t4
      have M4 := Lib.hid m4
      clear hcw hpa hrise hmet hcl hcl1 t4 m4 f4 hzb hzl
      go_wp2_with fail
      refine HCW.out.mono ?_
      rintro e wk ⟨vc, rfl, hown, mc⟩
      obtain ⟨Ac, capc, rfl, hcapc, _⟩ := hown.form
      have HOC := Lib.hid hown.has
      have T5 := Lib.hid (T4.out.mod mc (fun e => e) (fun _ _ e => e))
      have M5 := Lib.hid (M4.out.trans mc (fun _ _ e => e))
      clear hown mc
      go_wp2_with fail
      go_loopg [15] (cuts.length) (fun gk i wr => ∃ k nn : Nat, gk + k = cuts.length ∧ i = .int .i64 k ∧ wr = wk.drewN nn)
      case atStart => exact ⟨0, 0, by omega, rfl, rfl⟩
      case round =>
        obtain ⟨k, nn, hgk, rfl, hwr⟩ := hrel
        obtain ⟨wq, hwq⟩ : ∃ wq : World, wq = wk.drewN nn := ⟨_, rfl⟩
        rw [← hwq] at hwr
        subst hwr
        subst hwq
        obtain ⟨gout, rfl⟩ : ∃ n : Nat, n = gk := ⟨_, rfl⟩
        by_cases hk : k < cuts.length
        · have hc? := List.getElem?_eq_getElem hk
          obtain ⟨gc, oc, rfl, _, hcc⟩ := HOC.out.atI hc?
          have hme := HME.out k _ hc?
          have HRK := Lib.hid (fun (y : Int) (h0 : 0 < k) (hy : cuts[k - 1]? = some y) => HRI.out k _ y h0 hy hc?)
          generalize cuts[k]'hk = c at *
          clear hc?
          have hT : ∃ (β : Bool) (j0 : Nat), (decide (n = 0) && (c == 0)) = β ∧ (β = true ∨ (0 ≤ j0 ∧ j0 < n)) ∧ (∀ x, xs[j0]? = some x → c = clampZ x 0 1073741824) := by
            rcases hme with ⟨hnil, rfl⟩ | hmem
            · have : xs = [] := by simpa using hnil
              have hn0 : n = 0 := by rw [← HN.out, this]; rfl
              subst hn0
              exact ⟨true, 0, rfl, .inl rfl, fun x h => by rw [this] at h; simp at h⟩
            · obtain ⟨x0, hx0, rfl⟩ := List.mem_map.1 hmem
              obtain ⟨j0, hj0, rfl⟩ := List.mem_iff_getElem.1 hx0
              have hj1 : j0 < n := by rw [← HN.out]; exact hj0
              refine ⟨false, j0, ?_, .inr ⟨Nat.zero_le _, hj1⟩, fun x h => ?_⟩
              · rw [show decide (n = 0) = false by simp; omega]
                rfl
              · rw [List.getElem?_eq_getElem hj0] at h
                rw [Option.some.inj h]
          obtain ⟨β0, j0, hβ, hT1, hT2⟩ := hT
          have HT2 := Lib.hid hT2
          have HT1 := Lib.hid hT1
          clear hT1 hT2 hme
          have hz0 : (n = 0 ∧ (decide (n = 0)) = true) ∨ (0 < n ∧ (decide (n = 0)) = false) := by
            by_cases h : n = 0
            · exact .inl ⟨h, by simp [h]⟩
            · exact .inr ⟨by omega, by simp [h]⟩
          go_upto_region 16 with fail
          go_cut [16] from 73 to 82 (fun m wx => m = .bool β0 ∧ wx = wk.drewN nn)
          case first =>
            rcases hz0 with ⟨hz1, hz2⟩ | ⟨hz1, hz2⟩
            · rw [hz2, Bool.true_and] at hβ
              subst hβ
              subst hz1
              clear hz2
              go_wp2_with fail
              go_meet
              case rel => exact ⟨rfl, rfl⟩
            · rw [hz2, Bool.false_and] at hβ
              subst hβ
              go_wp2_with fail
              go_meet
              case rel => exact ⟨rfl, rfl⟩
          case rest =>
            obtain ⟨rfl, hwc2⟩ := hcut
            rw [hwc2]
            clear hz0 hβ hwc2
            go_wp2_with fail
            go_loopg [16, 17] (n) (fun gk m q wi => ∃ (j n2 : Nat) (β : Bool), gk + j = n ∧ q = .int .i64 j ∧ m = .bool β ∧ (β = true ∨ (j ≤ j0 ∧ j0 < n)) ∧ wi = wk.drewN n2)
            case atStart => exact ⟨0, nn, _, by omega, rfl, rfl, HT1.out, rfl⟩
            case round =>
              obtain ⟨j, n2, β, hgj, rfl, rfl, hβ2, hwi⟩ := hrel
              subst hwi
              have HB2 := Lib.hid hβ2
              clear hβ2
              by_cases hj : j < n
              · have hjx : j < xs.length := by rw [HN.out]; exact hj
                have hx? := List.getElem?_eq_getElem hjx
                obtain ⟨g, off, rfl, hg, hcell0⟩ := HX.out.atI hx?
                have hcell : wk.cell? ⟨g, off + j, none⟩ = some (.int .i64 xs[j]) := by
                  rw [M5.out.cell (p := ⟨g, off + j, none⟩) hg (fun e => e)]
                  exact hcell0
                have hT3 : j = j0 → c = clampZ xs[j] 0 1073741824 := fun e => HT2.out _ (by rw [← e]; exact hx?)
                generalize xs[j]'hjx = x at *
                have HT3 := Lib.hid hT3
                clear hcell0 hx? hT3
                cases β with
                | true =>
                  go_wp2_with fail
                  go_quiet (fail)
                  go_wp2_with fail
                  go_roundg (gk - 1)
                  case measure => omega
                  case rel => exact ⟨j + 1, _, true, by omega, by go_num, rfl, .inl rfl, by first | rfl | rw [World.drewN_drewN]⟩
                | false =>
                  have hC : ∀ w : World, Calls Try.prog 16 #[.int .i64 x, .int .i64 0, .int .i64 1073741824] w fun e w' => e = .returned (.int .i64 (clampZ x 0 1073741824)) ∧ w = w' := fun w => refClamp x 0 1073741824 w
                  generalize clampZ x 0 1073741824 = y at *
                  have HC := Lib.hid hC
                  clear hC
                  go_wp2_with fail
                  go_quiet ((go_at_call 16; refine (HC.out _).mono ?_; rintro e w' ⟨rfl, rfl⟩; exact ⟨rfl, _, rfl⟩))
                  go_wp2_with fail
                  go_roundg (gk - 1)
                  case measure => omega
                  case rel =>
                    refine ⟨j + 1, _, (c == y), by omega, by go_num, rfl, ?_, by first | rfl | rw [World.drewN_drewN]⟩
                    by_cases e : j = j0
                    · left
                      rw [HT3.out e]
                      simp
                    · right
                      rcases HB2.out with h | h
                      · cases h
                      · omega
              · have hβt : β = true := by
                  rcases HB2.out with h | h
                  · exact h
                  · omega
                subst hβt
                by_cases hk0 : 0 < k
                · have hd : decide (0 < k) = true := by simpa using hk0
                  have hkl : k - 1 < cuts.length := by omega
                  have hy? := List.getElem?_eq_getElem hkl
                  have hyc := HRK.out _ hk0 hy?
                  obtain ⟨gc', oc', he', _, hcy⟩ := HOC.out.atI hy?
                  obtain ⟨rfl, rfl⟩ : gc = gc' ∧ oc = oc' := by
                    injection he' with e
                    injection e with e1 e2
                    exact ⟨e1, e2⟩
                  generalize cuts[k - 1]'hkl = y at *
                  have hd2 : decide (c < y) = false := by simpa using hyc
                  have hk1 : (1 : Int) ≤ (k : Int) := by omega
                  clear he' hy?
                  go_wp2_with fail
                  go_quiet (fail)
                  go_wp2_with fail
                  go_roundg (gout - 1)
                  case measure => omega
                  case rel => exact ⟨k + 1, _, by omega, by go_num, by first | rfl | rw [World.drewN_drewN]⟩
                · have hd : decide (0 < k) = false := by simpa using hk0
                  go_wp2_with fail
                  go_quiet (fail)
                  go_wp2_with fail
                  go_roundg (gout - 1)
                  case measure => omega
                  case rel => exact ⟨k + 1, _, by omega, by go_num, by first | rfl | rw [World.drewN_drewN]⟩
        · have T6 := Lib.hid (T5.out.mod ((Mod.refl (fun _ => False) wk).drewN nn) (fun e => e) (fun _ _ e => e))
          have M6 := Lib.hid (M5.out.drewN nn)
          have hmono : cntZ cuts (min a b) ≤ cntZ cuts (max a b) := cntZ_mono (by omega)
          have hle := cntZ_le cuts (max a b)
          have hle2 := HCL.out
          have hp1 := HPA.out (wk.drewN nn) (min a b) T6.out
          have hp2 := fun w' => HPA.out w' (max a b)
          generalize cntZ cuts (min a b) = p1 at *
          generalize cntZ cuts (max a b) = p2 at *
          have HP1 := Lib.hid hp1
          have HP2 := Lib.hid hp2
          have hq1 : (7 : Int) - p2 ≤ 7 - p1 := by omega
          have hq2 : 8 - lev ≤ (7 : Int) - p2 := by omega
          have hq3 : (7 : Int) - p1 ≤ 7 := by omega
          generalize (7 : Int) - p1 = x1 at *
          generalize (7 : Int) - p2 = x2 at *
          clear hp1 hp2 hmono hle hle2
          go_wp2_with fail
          refine HP1.out.mono ?_
          rintro e w7 ⟨rfl, m7⟩
          have T7 := Lib.hid (T6.out.mod m7 (fun e => e) (fun _ _ e => e))
          have M7 := Lib.hid (M6.out.trans m7 (fun _ _ e => e))
          clear m7
          go_wp2_with fail
          refine (HP2.out _ T7.out).mono ?_
          rintro e w8 ⟨rfl, m8⟩
          have M8 := Lib.hid (M7.out.trans m8 (fun _ _ e => e))
          clear m8
          go_wp2_with fail
          refine (awakeW _).mono ?_
          rintro e w9 ⟨rfl, m9⟩
          have M9 := Lib.hid (M8.out.trans m9 (fun _ _ e => e))
          clear m9
          go_wp2_with fail
          go_ret
          exact ⟨rfl, M9.out⟩
theorem walk_cutoffRises {v : Value} (w : World) (lev : Int) (w0 : (Lit.int .i64 lev).wf = true) (xs : List Int) (w1 : Ints w v xs) (win : Int) (w2 : (Lit.int .i64 win).wf = true) (a : Int) (w3 : (Lit.int .i64 a).wf = true) (b : Int) (w4 : (Lit.int .i64 b).wf = true) :
    Calls Try.prog 4 #[.int .i64 lev, v, .int .i64 win, .int .i64 a, .int .i64 b] w fun e w' => e = .returned (.bool true) ∧ Below w.heap.size w w' := by
  have key : Calls Try.prog 4 #[.int .i64 lev, v, .int .i64 win, .int .i64 a, .int .i64 b] w fun e w' => e = .returned (.bool true) ∧ Mod (fun _ => False) w w' := by
    by_cases hok : 1 ≤ lev ∧ lev ≤ 8 ∧ xs.length ≤ 60 ∧ 0 ≤ win
    · exact walk_risesIn lev v xs win a b w w1 hok.1 hok.2.1 hok.2.2.1 hok.2.2.2
    · obtain ⟨A, cap, rfl, _⟩ := w1.1.form
      exact walk_risesNo lev A _ cap win a b w (by omega)
  exact key.mono fun e w' ⟨he, hm⟩ => ⟨he, hm.below⟩
theorem open_cutoffRises_sizes {H : Type} {enc : TypeId × Value → H} {w : World} {v : Value} {d : DataW H} {p : List MemPlace}
    (hv : Value.okWide Try.prog w .any 0 22 v) (h : DataW.Trod enc Try.prog w 0 (fun _ => true) true 22 v d p) : ∃ xs : List Int, Ints w v xs := open_sizes hv h
end Go.Proofs.Ytodinfadheabpaa
