/- Contracts of package topo: where a frame goes. -/
import Derived.Test.YtflkdkghpoccgaaDoorTopoK
namespace Go.Proofs.YtflkdkghpoccgaaDoor
open Go.RowKit
set_option linter.unusedVariables false
set_option maxHeartbeats 4000000
set_option maxRecDepth 100000
theorem hopsW (b : Nat) (h lv s x y : Int) (w : World) (n : Nt w b h lv s) :
    Calls Tryd.prog 19 #[.pointer (some ⟨b, 0, none⟩), .int .i64 x, .int .i64 y] w fun e w' => e = .returned (.int .i64 (hopsZ h x y)) ∧ Mod (fun _ => False) w w' := by
  by_cases cx : 0 ≤ x ∧ x < h
  · have hx : decide (0 ≤ x ∧ x < h) = true := decide_eq_true cx
    by_cases cy : 0 ≤ y ∧ y < h
    · have hy : decide (0 ≤ y ∧ y < h) = true := decide_eq_true cy
      have lx : leafZ h x = x / 2 := by unfold leafZ; rw [if_neg (by omega)]
      have ly : leafZ h y = y / 2 := by unfold leafZ; rw [if_neg (by omega)]
      have hz : hopsZ h x y = if x / 2 = y / 2 then 2 else 4 := by unfold hopsZ; rw [if_neg (by omega)]
      rw [hz]
      have HX := Lib.hid lx
      have HY := Lib.hid ly
      have HDX := Lib.hid hx
      have HDY := Lib.hid hy
      clear hx hy hz lx ly cx cy
      by_cases ce : x / 2 = y / 2
      · rw [if_pos ce]
        have he : (x / 2 == y / 2) = true := by simpa using ce
        clear ce
        go_enter Tryd.func19, Tryd.ntmps19
        go_wp2_with fail
        refine (hasW _ _ _ _ _ _ n).mono ?_
        rintro e w1 ⟨rfl, m1⟩
        rw [HDX.out]
        have n1 := n.mod m1 (fun e => e)
        go_wp2_with fail
        refine (hasW _ _ _ _ _ _ n1).mono ?_
        rintro e w2 ⟨rfl, m2⟩
        rw [HDY.out]
        have n2 := n1.mod m2 (fun e => e)
        go_wp2_with fail
        refine (leafW _ _ _ _ _ _ n2).mono ?_
        rintro e w3 ⟨rfl, m3⟩
        rw [HX.out]
        have n3 := n2.mod m3 (fun e => e)
        go_wp2_with fail
        refine (leafW _ _ _ _ _ _ n3).mono ?_
        rintro e w4 ⟨rfl, m4⟩
        rw [HY.out]
        go_wp2
        go_ret
        exact ⟨rfl, ((m1.trans m2 (fun _ _ h => h)).trans m3 (fun _ _ h => h)).trans m4 (fun _ _ h => h)⟩
      · rw [if_neg ce]
        have he : (x / 2 == y / 2) = false := by simpa using ce
        clear ce
        go_enter Tryd.func19, Tryd.ntmps19
        go_wp2_with fail
        refine (hasW _ _ _ _ _ _ n).mono ?_
        rintro e w1 ⟨rfl, m1⟩
        rw [HDX.out]
        have n1 := n.mod m1 (fun e => e)
        go_wp2_with fail
        refine (hasW _ _ _ _ _ _ n1).mono ?_
        rintro e w2 ⟨rfl, m2⟩
        rw [HDY.out]
        have n2 := n1.mod m2 (fun e => e)
        go_wp2_with fail
        refine (leafW _ _ _ _ _ _ n2).mono ?_
        rintro e w3 ⟨rfl, m3⟩
        rw [HX.out]
        have n3 := n2.mod m3 (fun e => e)
        go_wp2_with fail
        refine (leafW _ _ _ _ _ _ n3).mono ?_
        rintro e w4 ⟨rfl, m4⟩
        rw [HY.out]
        go_wp2
        go_ret
        exact ⟨rfl, ((m1.trans m2 (fun _ _ h => h)).trans m3 (fun _ _ h => h)).trans m4 (fun _ _ h => h)⟩
    · have hy : decide (0 ≤ y ∧ y < h) = false := decide_eq_false cy
      have hz : hopsZ h x y = 0 := by unfold hopsZ; rw [if_pos (by omega)]
      rw [hz]
      have HDX := Lib.hid hx
      have HDY := Lib.hid hy
      clear hx hy hz cx cy
      go_enter Tryd.func19, Tryd.ntmps19
      go_wp2_with fail
      refine (hasW _ _ _ _ _ _ n).mono ?_
      rintro e w1 ⟨rfl, m1⟩
      rw [HDX.out]
      have n1 := n.mod m1 (fun e => e)
      go_wp2_with fail
      refine (hasW _ _ _ _ _ _ n1).mono ?_
      rintro e w2 ⟨rfl, m2⟩
      rw [HDY.out]
      go_wp2
      go_ret
      exact ⟨rfl, m1.trans m2 (fun _ _ h => h)⟩
  · have hx : decide (0 ≤ x ∧ x < h) = false := decide_eq_false cx
    have hz : hopsZ h x y = 0 := by unfold hopsZ; rw [if_pos (by omega)]
    rw [hz]
    have HDX := Lib.hid hx
    clear hx hz cx
    go_enter Tryd.func19, Tryd.ntmps19
    go_wp2_with fail
    refine (hasW _ _ _ _ _ _ n).mono ?_
    rintro e w1 ⟨rfl, m1⟩
    rw [HDX.out]
    go_wp2
    go_ret
    exact ⟨rfl, m1⟩
theorem hopsNone (x y : Int) (w : World) :
    Calls Tryd.prog 19 #[.pointer none, .int .i64 x, .int .i64 y] w fun e w' => e = .returned (.int .i64 0) ∧ Mod (fun _ => False) w w' := by
  go_enter Tryd.func19, Tryd.ntmps19
  go_wp2_with fail
  refine (hasNone _ _).mono ?_
  rintro e w1 ⟨rfl, m1⟩
  go_wp2
  go_ret
  exact ⟨rfl, m1⟩
theorem nextNone (p d path : Int) (w : World) :
    Calls Tryd.prog 10 #[.pointer none, .int .i64 p, .int .i64 d, .int .i64 path] w fun e w' => e = .returned (.tuple #[.int .i64 (-1), .bool false]) ∧ Mod (fun _ => False) w w' := by
  go_enter Tryd.func10, Tryd.ntmps10
  go_wp2_with fail
  refine (kindNone _ _).mono ?_
  rintro e w1 ⟨rfl, m1⟩
  go_wp2
  go_ret2
  exact ⟨rfl, m1⟩
theorem nextW (b : Nat) (h lv s p d path : Int) (w : World) (n : Nt w b h lv s) :
    Calls Tryd.prog 10 #[.pointer (some ⟨b, 0, none⟩), .int .i64 p, .int .i64 d, .int .i64 path] w fun e w' => e = .returned (.tuple #[.int .i64 (nextZ h lv s p d path).1, .bool (nextZ h lv s p d path).2]) ∧ Mod (fun _ => False) w w' := by
  obtain ⟨o1, o2, olv, o3, o4⟩ := n.2
  obtain ⟨q1, q2, q3, q4, q5⟩ := n.2.m
  obtain ⟨g0, g1, k0, k1⟩ := kindZ_bd n.2 p
  have gk := kindZ_up h lv s p
  have hK : ∀ w1, Nt w1 b h lv s → Calls Tryd.prog 22 #[.pointer (some ⟨b, 0, none⟩), .int .i64 p] w1 fun e w' => e = .returned (.tuple #[.int .i64 (kindZ h lv s p).1, .int .i64 (kindZ h lv s p).2]) ∧ Mod (fun _ => False) w1 w' := fun w1 n1 => kindW b h lv s p w1 n1
  unfold nextZ
  generalize (kindZ h lv s p).1 = g at *
  generalize (kindZ h lv s p).2 = k at *
  have HK := Lib.hid hK
  clear hK q5 olv
  by_cases cg : g = 0
  · subst cg
    rw [if_pos (Or.inl rfl)]
    go_enter Tryd.func10, Tryd.ntmps10
    go_wp2_with fail
    refine (HK.out _ n).mono ?_
    rintro e w1 ⟨rfl, m1⟩
    go_wp2
    go_ret2
    exact ⟨rfl, m1⟩
  · have hg0 : (g == 0) = false := by simpa using cg
    by_cases cd : 0 ≤ d ∧ d < h
    · rw [if_neg (by omega)]
      have hd : decide (0 ≤ d ∧ d < h) = true := decide_eq_true cd
      obtain ⟨d0, d1⟩ := cd
      have ld : leafZ h d = d / 2 := by unfold leafZ; rw [if_neg (by omega)]
      have HD := Lib.hid hd
      have HL := Lib.hid ld
      clear hd ld
      by_cases c2 : g = 2
      · subst c2
        rw [if_pos rfl]
        go_enter Tryd.func10, Tryd.ntmps10
        go_wp2_with fail
        refine (HK.out _ n).mono ?_
        rintro e w1 ⟨rfl, m1⟩
        have n1 := n.mod m1 (fun e => e)
        go_wp2_with fail
        refine (hasW _ _ _ _ _ _ n1).mono ?_
        rintro e w2 ⟨rfl, m2⟩
        rw [HD.out]
        go_wp2
        go_ret2
        exact ⟨rfl, m1.trans m2 (fun _ _ h => h)⟩
      · rw [if_neg c2]
        by_cases c3 : g = 3
        · subst c3
          rw [if_pos rfl]
          have r0 : 0 ≤ k % s := Int.emod_nonneg _ (by omega)
          have r1 : k % s < s := Int.emod_lt_of_pos _ (by omega)
          have r2 : 0 ≤ k % s * lv := Int.mul_nonneg r0 (by omega)
          have r3 : k % s * lv ≤ 16 := by
            have := Int.mul_le_mul (show k % s ≤ 4 by omega) q2 (by omega) (by omega); omega
          clear c2 cg hg0
          go_enter Tryd.func10, Tryd.ntmps10
          go_wp2_with fail
          refine (HK.out _ n).mono ?_
          rintro e w1 ⟨rfl, m1⟩
          have n1 := n.mod m1 (fun e => e)
          go_wp2_with fail
          refine (hasW _ _ _ _ _ _ n1).mono ?_
          rintro e w2 ⟨rfl, m2⟩
          rw [HD.out]
          have n2 := n1.mod m2 (fun e => e)
          go_wp2_with fail
          have hT := fun (y : Later w2) => (n2.later y).1.cell
          have hf : ∀ (y : Later w2), Calls Tryd.prog 16 #[.pointer (some ⟨b, 0, none⟩), .int .i64 d] y.world fun e w' => e = .returned (.int .i64 (d / 2)) ∧ Mod (fun _ => False) y.world w' := fun y => by
            have := leafW b h lv s d y.world (n2.later y)
            rw [HL.out] at this
            exact this
          have HF := Lib.hid hf
          clear hf
          refine region_later (by kernel_rfl) (by kernel_rfl) ?_
          repeat (go_big_quiet_step ((go_at_call 16; exact later_call (HF.out _))))
          refine wpQuiet_nil ?_
          intro _ hw'
          obtain ⟨y, hw''⟩ := hw'
          subst hw''
          go_wp2
          go_ret2
          exact ⟨rfl, (m1.trans m2 (fun _ _ h => h)).trans y.mod (fun _ _ h => h)⟩
        · rw [if_neg c3]
          have hg2 : (g == 2) = false := by simpa using c2
          have hg3 : (g == 3) = false := by simpa using c3
          by_cases c4 : g = 4
          · subst c4
            rw [if_pos rfl]
            have r0 : 0 ≤ k % lv := Int.emod_nonneg _ (by omega)
            clear c2 c3 cg hg0 hg2 hg3
            go_enter Tryd.func10, Tryd.ntmps10
            go_wp2_with fail
            refine (HK.out _ n).mono ?_
            rintro e w1 ⟨rfl, m1⟩
            have n1 := n.mod m1 (fun e => e)
            go_wp2_with fail
            refine (hasW _ _ _ _ _ _ n1).mono ?_
            rintro e w2 ⟨rfl, m2⟩
            rw [HD.out]
            have n2 := n1.mod m2 (fun e => e)
            have hc := n2.1.cell
            go_wp2_with fail
            refine (downW _ _ _ _ _ _ _ n2 r0).mono ?_
            rintro e w3 ⟨rfl, m3⟩
            rw [HL.out]
            go_wp2
            all_goals
              go_ret2
              exact ⟨rfl, (m1.trans m2 (fun _ _ h => h)).trans m3 (fun _ _ h => h)⟩
          · rw [if_neg c4]
            have hg4 : (g == 4) = false := by simpa using c4
            have hgk : k < h := gk (by omega)
            have hg1 : g = 1 := by omega
            have lk : leafZ h k = k / 2 := by unfold leafZ; rw [if_neg (by omega)]
            have HLK := Lib.hid lk
            have r0 : 0 ≤ k / 2 := by omega
            have r1 : k / 2 ≤ 4 := by omega
            have r2 : 0 ≤ k / 2 * s := Int.mul_nonneg r0 (by omega)
            have r3 : k / 2 * s ≤ 16 := by
              have := Int.mul_le_mul r1 o4 (by omega) (by omega); omega
            have r4 := tmod_bd (p := path) (s := s) (by omega)
            have r5 : 0 ≤ path % s := Int.emod_nonneg _ (by omega)
            have r6 : path % s < s := Int.emod_lt_of_pos _ (by omega)
            subst hg1
            clear c2 c3 c4 cg hg0 hg2 hg3 hg4 lk gk
            by_cases ce : d / 2 = k / 2
            · rw [if_pos ce]
              have HE := Lib.hid ce
              clear ce
              go_enter Tryd.func10, Tryd.ntmps10
              go_wp2_with fail
              refine (HK.out _ n).mono ?_
              rintro e w1 ⟨rfl, m1⟩
              have n1 := n.mod m1 (fun e => e)
              go_wp2_with fail
              refine (hasW _ _ _ _ _ _ n1).mono ?_
              rintro e w2 ⟨rfl, m2⟩
              rw [HD.out]
              have n2 := n1.mod m2 (fun e => e)
              go_wp2_with fail
              refine (leafW _ _ _ _ _ _ n2).mono ?_
              rintro e w3 ⟨rfl, m3⟩
              rw [HLK.out]
              have n3 := n2.mod m3 (fun e => e)
              go_wp2_with fail
              refine (downW _ _ _ _ _ _ _ n3 r0).mono ?_
              rintro e w4 ⟨rfl, m4⟩
              rw [HL.out, if_pos HE.out]
              go_wp2
              go_ret2
              exact ⟨rfl, ((m1.trans m2 (fun _ _ h => h)).trans m3 (fun _ _ h => h)).trans m4 (fun _ _ h => h)⟩
            · rw [if_neg ce]
              have HE := Lib.hid ce
              clear ce
              have hpm := tmod_pos (p := path) (s := s) (by omega)
              go_enter Tryd.func10, Tryd.ntmps10
              go_wp2_with fail
              refine (HK.out _ n).mono ?_
              rintro e w1 ⟨rfl, m1⟩
              have n1 := n.mod m1 (fun e => e)
              go_wp2_with fail
              refine (hasW _ _ _ _ _ _ n1).mono ?_
              rintro e w2 ⟨rfl, m2⟩
              rw [HD.out]
              have n2 := n1.mod m2 (fun e => e)
              go_wp2_with fail
              refine (leafW _ _ _ _ _ _ n2).mono ?_
              rintro e w3 ⟨rfl, m3⟩
              rw [HLK.out]
              have n3 := n2.mod m3 (fun e => e)
              go_wp2_with fail
              refine (downW _ _ _ _ _ _ _ n3 r0).mono ?_
              rintro e w4 ⟨rfl, m4⟩
              rw [HL.out, if_neg HE.out]
              have hc := (n3.mod m4 (fun e => e)).1.cell
              go_wp2_with fail
              go_quiet (fail)
              go_wp2
              go_ret2
              exact ⟨rfl, (((m1.trans m2 (fun _ _ h => h)).trans m3 (fun _ _ h => h)).trans m4 (fun _ _ h => h)).drewN _⟩
    · rw [if_pos (by omega)]
      have hd : decide (0 ≤ d ∧ d < h) = false := decide_eq_false cd
      have HD := Lib.hid hd
      clear hd cd
      go_enter Tryd.func10, Tryd.ntmps10
      go_wp2_with fail
      refine (HK.out _ n).mono ?_
      rintro e w1 ⟨rfl, m1⟩
      have n1 := n.mod m1 (fun e => e)
      go_wp2_with fail
      refine (hasW _ _ _ _ _ _ n1).mono ?_
      rintro e w2 ⟨rfl, m2⟩
      rw [HD.out]
      go_wp2
      go_ret2
      exact ⟨rfl, m1.trans m2 (fun _ _ h => h)⟩
end Go.Proofs.YtflkdkghpoccgaaDoor
