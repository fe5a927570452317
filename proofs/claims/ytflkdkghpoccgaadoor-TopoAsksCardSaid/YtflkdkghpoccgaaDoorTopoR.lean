/- Contracts of the reference's net. -/
import Derived.Test.YtflkdkghpoccgaaDoorTopoN
namespace Go.Proofs.YtflkdkghpoccgaaDoor
open Go.RowKit
set_option linter.unusedVariables false
set_option maxHeartbeats 4000000
set_option maxRecDepth 100000
/-- The reference's net in memory. -/
def Nr (w : World) (b : Nat) (h lv s : Int) : Prop := Blk w b 35 #[.int .i64 h, .int .i64 lv, .int .i64 s] ∧ Okn h lv s
theorem Nr.mod {S : Nat → Prop} {w w' : World} (m : Mod S w w') {b : Nat} {h lv s : Int} (n : Nr w b h lv s) (hb : ¬ S b) : Nr w' b h lv s := ⟨n.1.mod m hb, n.2⟩
theorem refNewW (h s : Int) (w : World) (h1 : 2 ≤ h) (h2 : h ≤ 8) (h3 : 1 ≤ s) (h4 : s ≤ 4) :
    Calls Tryd.prog 7 #[.int .i64 h, .int .i64 s] w fun e w' => e = .returned (.tuple #[.pointer (some ⟨w.heap.size, 0, none⟩), .int .i64 0]) ∧ Nr w' w.heap.size h ((h + 1) / 2) s ∧ Mod (fun _ => False) w w' := by
  go_enter Tryd.func7, Tryd.ntmps7
  go_wp2
  go_ret2
  exact ⟨rfl, ⟨Blk.new w _ _, h1, h2, rfl, h3, h4⟩, (Mod.refl _ _).alloc _⟩
theorem refNewNo (h s : Int) (w : World) (hn : h < 2 ∨ 8 < h ∨ s < 1 ∨ 4 < s) :
    Calls Tryd.prog 7 #[.int .i64 h, .int .i64 s] w fun e w' => e = .returned (.tuple #[.pointer none, .int .i64 1]) ∧ w = w' := by
  go_enter Tryd.func7, Tryd.ntmps7
  go_wp2
  all_goals
    go_ret2
    exact ⟨rfl, rfl⟩
theorem refPortsW (b : Nat) (h lv s : Int) (w : World) (n : Nr w b h lv s) :
    Calls Tryd.prog 9 #[.pointer (some ⟨b, 0, none⟩)] w fun e w' => e = .returned (.int .i64 (portsZ h lv s)) ∧ Mod (fun _ => False) w w' := by
  have hc := n.1.cell
  obtain ⟨o1, o2, olv, o3, o4⟩ := n.2
  obtain ⟨q1, q2, q3, q4, q5⟩ := n.2.m
  have q6 : 0 ≤ 2 * lv * s := by omega
  have q7 : 2 * lv * s ≤ 32 := by omega
  clear q5 olv
  go_enter Tryd.func9, Tryd.ntmps9
  go_wp2_with fail
  go_quiet (fail)
  go_wp2
  go_ret
  exact ⟨rfl, (Mod.refl _ _).drewN _⟩
theorem refLeafW (b : Nat) (h lv s x : Int) (w : World) (n : Nr w b h lv s) :
    Calls Tryd.prog 17 #[.pointer (some ⟨b, 0, none⟩), .int .i64 x] w fun e w' => e = .returned (.int .i64 (leafZ h x)) ∧ Mod (fun _ => False) w w' := by
  have hc := n.1.cell
  obtain ⟨o1, o2, olv, o3, o4⟩ := n.2
  unfold leafZ
  clear olv
  by_cases c0 : x < 0
  · rw [if_pos (Or.inl c0)]
    go_enter Tryd.func17, Tryd.ntmps17
    go_wp2
    go_ret
    exact ⟨rfl, Mod.refl _ _⟩
  · by_cases c1 : h ≤ x
    · rw [if_pos (Or.inr c1)]
      go_enter Tryd.func17, Tryd.ntmps17
      go_wp2
      go_ret
      exact ⟨rfl, Mod.refl _ _⟩
    · rw [if_neg (by omega)]
      go_enter Tryd.func17, Tryd.ntmps17
      go_wp2
      go_ret
      exact ⟨rfl, Mod.refl _ _⟩
/-- A port's two numbers, by its kind. -/
def abZ (lv s g k : Int) : Int × Int := if g = 0 then (0, 0) else if g = 1 then (k, 0) else if g = 2 then (k / 2, k) else if g = 3 then (k / s, k % s) else (k / lv, k % lv)
theorem refKindW (b : Nat) (h lv s p : Int) (w : World) (n : Nr w b h lv s) :
    Calls Tryd.prog 25 #[.pointer (some ⟨b, 0, none⟩), .int .i64 p] w fun e w' => e = .returned (.tuple #[.int .i64 ((kindZ h lv s p).1 - 1), .int .i64 (abZ lv s (kindZ h lv s p).1 (kindZ h lv s p).2).1, .int .i64 (abZ lv s (kindZ h lv s p).1 (kindZ h lv s p).2).2]) ∧ Mod (fun _ => False) w w' := by
  have hpz := portsZ_eq n.2
  obtain ⟨o1, o2, olv, o3, o4⟩ := n.2
  obtain ⟨q1, q2, q3, q4, q5⟩ := n.2.m
  have hc := n.1.cell
  clear q5 olv
  by_cases c0 : p < 0
  · rw [show kindZ h lv s p = (0, 0) by unfold kindZ; rw [if_pos (Or.inl c0)]]
    simp only [abZ, if_true]
    clear hpz
    go_enter Tryd.func25, Tryd.ntmps25
    go_wp2_with fail
    go_quiet (fail)
    have m0 : Mod (fun _ => False) w (w.drewN nq) := (Mod.refl _ _).drewN nq
    have n0 := n.mod m0 (fun e => e)
    generalize World.drewN w nq = w0 at m0 n0 ⊢
    clear hc nq
    go_wp2_with fail
    go_wp2
    go_ret3
    exact ⟨rfl, m0⟩
  · by_cases c1 : portsZ h lv s ≤ p
    · rw [show kindZ h lv s p = (0, 0) by unfold kindZ; rw [if_pos (Or.inr c1)]]
      simp only [abZ, if_true]
      clear hpz
      go_enter Tryd.func25, Tryd.ntmps25
      go_wp2_with fail
      go_quiet (fail)
      have m0 : Mod (fun _ => False) w (w.drewN nq) := (Mod.refl _ _).drewN nq
      have n0 := n.mod m0 (fun e => e)
      generalize World.drewN w nq = w0 at m0 n0 ⊢
      clear hc nq
      go_wp2_with fail
      refine (refPortsW _ _ _ _ _ n0).mono ?_
      rintro e w1 ⟨rfl, m1⟩
      have hc := (n0.mod m1 (fun e => e)).1.cell
      have m2 := m0.trans m1 (fun _ _ h => h)
      clear m0 m1 n0
      go_wp2
      go_ret3
      exact ⟨rfl, m2⟩
    · have hpl : p < 2 * h + 2 * (lv * s) := by omega
      have hne : ¬ (p < 0 ∨ portsZ h lv s ≤ p) := by omega
      have hnp : p < portsZ h lv s := by omega
      clear hpz c1
      by_cases c2 : p < h
      · rw [show kindZ h lv s p = (1, p) by unfold kindZ; rw [if_neg hne, if_pos c2]]
        simp only [abZ, if_true, show ((1 : Int) = 0) = False by simp, if_false]
        clear hne
        go_enter Tryd.func25, Tryd.ntmps25
        go_wp2_with fail
        go_quiet (fail)
        have m0 : Mod (fun _ => False) w (w.drewN nq) := (Mod.refl _ _).drewN nq
        have n0 := n.mod m0 (fun e => e)
        generalize World.drewN w nq = w0 at m0 n0 ⊢
        clear hc nq
        go_wp2_with fail
        refine (refPortsW _ _ _ _ _ n0).mono ?_
        rintro e w1 ⟨rfl, m1⟩
        have hc := (n0.mod m1 (fun e => e)).1.cell
        have m2 := m0.trans m1 (fun _ _ h => h)
        clear m0 m1 n0
        go_wp2
        go_ret3
        exact ⟨rfl, m2⟩
      · by_cases c3 : p < 2 * h
        · rw [show kindZ h lv s p = (2, p - h) by unfold kindZ; rw [if_neg hne, if_neg c2, if_pos c3]]
          simp only [abZ, if_true, show ((2 : Int) = 0) = False by simp, show ((2 : Int) = 1) = False by simp, if_false]
          clear hne
          go_enter Tryd.func25, Tryd.ntmps25
          go_wp2_with fail
          go_quiet (fail)
          have m0 : Mod (fun _ => False) w (w.drewN nq) := (Mod.refl _ _).drewN nq
          have n0 := n.mod m0 (fun e => e)
          generalize World.drewN w nq = w0 at m0 n0 ⊢
          clear hc nq
          go_wp2_with fail
          refine (refPortsW _ _ _ _ _ n0).mono ?_
          rintro e w1 ⟨rfl, m1⟩
          have hc := (n0.mod m1 (fun e => e)).1.cell
          have m2 := m0.trans m1 (fun _ _ h => h)
          clear m0 m1 n0
          go_wp2_with fail
          go_quiet (fail)
          go_wp2
          go_ret3
          exact ⟨rfl, m2.drewN _⟩
        · by_cases c4 : p < 2 * h + lv * s
          · rw [show kindZ h lv s p = (3, p - 2 * h) by unfold kindZ; rw [if_neg hne, if_neg c2, if_neg c3, if_pos c4]]
            simp only [abZ, if_true, show ((3 : Int) = 0) = False by simp, show ((3 : Int) = 1) = False by simp, show ((3 : Int) = 2) = False by simp, if_false]
            have e0 : 0 ≤ p - 2 * h := by omega
            clear hne
            go_enter Tryd.func25, Tryd.ntmps25
            go_wp2_with fail
            go_quiet (fail)
            have m0 : Mod (fun _ => False) w (w.drewN nq) := (Mod.refl _ _).drewN nq
            have n0 := n.mod m0 (fun e => e)
            generalize World.drewN w nq = w0 at m0 n0 ⊢
            clear hc nq
            go_wp2_with fail
            refine (refPortsW _ _ _ _ _ n0).mono ?_
            rintro e w1 ⟨rfl, m1⟩
            have hc := (n0.mod m1 (fun e => e)).1.cell
            have m2 := m0.trans m1 (fun _ _ h => h)
            clear m0 m1 n0
            go_wp2_with fail
            go_quiet (fail)
            go_wp2
            go_ret3
            exact ⟨rfl, m2.drewN _⟩
          · rw [show kindZ h lv s p = (4, p - 2 * h - lv * s) by unfold kindZ; rw [if_neg hne, if_neg c2, if_neg c3, if_neg c4]]
            simp only [abZ, if_true, show ((4 : Int) = 0) = False by simp, show ((4 : Int) = 1) = False by simp, show ((4 : Int) = 2) = False by simp, show ((4 : Int) = 3) = False by simp, if_false]
            have e0 : 0 ≤ p - 2 * h - lv * s := by omega
            clear hne
            go_enter Tryd.func25, Tryd.ntmps25
            go_wp2_with fail
            go_quiet (fail)
            have m0 : Mod (fun _ => False) w (w.drewN nq) := (Mod.refl _ _).drewN nq
            have n0 := n.mod m0 (fun e => e)
            generalize World.drewN w nq = w0 at m0 n0 ⊢
            clear hc nq
            go_wp2_with fail
            refine (refPortsW _ _ _ _ _ n0).mono ?_
            rintro e w1 ⟨rfl, m1⟩
            have hc := (n0.mod m1 (fun e => e)).1.cell
            have m2 := m0.trans m1 (fun _ _ h => h)
            clear m0 m1 n0
            go_wp2_with fail
            go_quiet (fail)
            go_wp2
            go_ret3
            exact ⟨rfl, m2.drewN _⟩
theorem refHopsW (b : Nat) (h lv s x y : Int) (w : World) (n : Nr w b h lv s) :
    Calls Tryd.prog 20 #[.pointer (some ⟨b, 0, none⟩), .int .i64 x, .int .i64 y] w fun e w' => e = .returned (.int .i64 (hopsZ h x y)) ∧ Mod (fun _ => False) w w' := by
  have hc := n.1.cell
  obtain ⟨o1, o2, olv, o3, o4⟩ := n.2
  unfold hopsZ
  clear olv
  by_cases cx : 0 ≤ x ∧ x < h ∧ 0 ≤ y ∧ y < h
  · obtain ⟨x0, x1, y0, y1⟩ := cx
    rw [if_neg (by omega)]
    by_cases ce : x / 2 = y / 2
    · rw [if_pos ce]
      have he : (x / 2 == y / 2) = true := by simpa using ce
      clear ce
      go_enter Tryd.func20, Tryd.ntmps20
      go_wp2_with fail
      try go_quiet (fail)
      go_wp2
      go_ret
      exact ⟨rfl, by first | exact Mod.refl _ _ | exact (Mod.refl _ _).drewN _⟩
    · rw [if_neg ce]
      have he : (x / 2 == y / 2) = false := by simpa using ce
      clear ce
      go_enter Tryd.func20, Tryd.ntmps20
      go_wp2_with fail
      try go_quiet (fail)
      go_wp2
      go_ret
      exact ⟨rfl, by first | exact Mod.refl _ _ | exact (Mod.refl _ _).drewN _⟩
  · rw [if_pos (by omega)]
    by_cases x0 : x < 0
    · clear cx
      go_enter Tryd.func20, Tryd.ntmps20
      go_wp2
      go_ret
      exact ⟨rfl, Mod.refl _ _⟩
    · by_cases y0 : y < 0
      · clear cx
        go_enter Tryd.func20, Tryd.ntmps20
        go_wp2
        go_ret
        exact ⟨rfl, Mod.refl _ _⟩
      · by_cases x1 : h ≤ x
        · clear cx
          go_enter Tryd.func20, Tryd.ntmps20
          go_wp2
          go_ret
          exact ⟨rfl, Mod.refl _ _⟩
        · have y1 : h ≤ y := by omega
          clear cx
          go_enter Tryd.func20, Tryd.ntmps20
          go_wp2
          go_ret
          exact ⟨rfl, Mod.refl _ _⟩
theorem refNextW (b : Nat) (h lv s p d path : Int) (w : World) (n : Nr w b h lv s) :
    Calls Tryd.prog 11 #[.pointer (some ⟨b, 0, none⟩), .int .i64 p, .int .i64 d, .int .i64 path] w fun e w' => e = .returned (.tuple #[.int .i64 (nextZ h lv s p d path).1, .bool (nextZ h lv s p d path).2]) ∧ Mod (fun _ => False) w w' := by
  obtain ⟨o1, o2, olv, o3, o4⟩ := n.2
  obtain ⟨q1, q2, q3, q4, q5⟩ := n.2.m
  obtain ⟨g0, g1, k0, k1⟩ := kindZ_bd n.2 p
  have gk := kindZ_up h lv s p
  have hK : ∀ w1, Nr w1 b h lv s → Calls Tryd.prog 25 #[.pointer (some ⟨b, 0, none⟩), .int .i64 p] w1 fun e w' => e = .returned (.tuple #[.int .i64 ((kindZ h lv s p).1 - 1), .int .i64 (abZ lv s (kindZ h lv s p).1 (kindZ h lv s p).2).1, .int .i64 (abZ lv s (kindZ h lv s p).1 (kindZ h lv s p).2).2]) ∧ Mod (fun _ => False) w1 w' := fun w1 n1 => refKindW b h lv s p w1 n1
  unfold nextZ
  generalize (kindZ h lv s p).1 = g at *
  generalize (kindZ h lv s p).2 = k at *
  have r4 := tmod_bd (p := path) (s := s) (by omega)
  have r5 : 0 ≤ path % s := Int.emod_nonneg _ (by omega)
  have r6 : path % s < s := Int.emod_lt_of_pos _ (by omega)
  have hpm : (path.tmod s < 0 → path.tmod s + s = path % s) ∧ (¬ path.tmod s < 0 → path.tmod s = path % s) := by
    have h1 := tmod_pos (p := path) (s := s) (by omega)
    constructor
    · intro h2
      rw [Int.tmod_eq_emod_of_nonneg (by omega), Int.emod_eq_of_lt (by omega) (by omega)] at h1
      exact h1
    · intro h2
      rw [Int.tmod_eq_emod_of_nonneg (by omega), Int.add_emod_right, Int.emod_eq_of_lt (by omega) (by omega)] at h1
      exact h1
  have HK := Lib.hid hK
  clear hK q5 olv
  by_cases cg : g = 0
  · subst cg
    rw [if_pos (Or.inl rfl)]
    clear hpm
    go_enter Tryd.func11, Tryd.ntmps11
    go_wp2_with fail
    refine (HK.out _ n).mono ?_
    rintro e w1 ⟨rfl, m1⟩
    simp only [abZ, if_true]
    go_wp2
    go_ret2
    exact ⟨rfl, m1⟩
  · by_cases cd : 0 ≤ d ∧ d < h
    · rw [if_neg (by omega)]
      obtain ⟨d0, d1⟩ := cd
      have HPM := Lib.hid hpm
      clear hpm
      have hgs : g = 1 ∨ g = 2 ∨ g = 3 ∨ g = 4 := by omega
      by_cases hneg : path.tmod s < 0
      · have hpm := HPM.out.1 hneg
        have HP := Lib.hid hpm
        clear hpm HPM
        rcases hgs with rfl | rfl | rfl | rfl
        · have hgk : k < h := gk rfl
          have t0 : 0 ≤ k / 2 := by omega
          have t1 : k / 2 ≤ 4 := by omega
          have t2 : 0 ≤ k / 2 * s := Int.mul_nonneg t0 (by omega)
          have t3 : k / 2 * s ≤ 16 := by
            have := Int.mul_le_mul t1 o4 (by omega) (by omega); omega
          simp only [if_true, if_false, show ((1 : Int) = 2) = False by simp, show ((1 : Int) = 3) = False by simp, show ((1 : Int) = 4) = False by simp]
          clear gk cg
          by_cases ce : d / 2 = k / 2
          · rw [if_pos ce]
            have he : (k / 2 == d / 2) = true := by simpa using ce.symm
            clear ce
            go_enter Tryd.func11, Tryd.ntmps11
            go_wp2_with fail
            refine (HK.out _ n).mono ?_
            rintro e w1 ⟨rfl, m1⟩
            simp only [abZ, if_true, if_false, show ((1 : Int) = 0) = False by simp, show ((2 : Int) = 0) = False by simp, show ((2 : Int) = 1) = False by simp, show ((3 : Int) = 0) = False by simp, show ((3 : Int) = 1) = False by simp, show ((3 : Int) = 2) = False by simp, show ((4 : Int) = 0) = False by simp, show ((4 : Int) = 1) = False by simp, show ((4 : Int) = 2) = False by simp, show ((4 : Int) = 3) = False by simp]
            have hc := (n.mod m1 (fun e => e)).1.cell
            go_wp2
            go_ret2
            exact ⟨rfl, m1⟩
          · rw [if_neg ce]
            have he : (k / 2 == d / 2) = false := by simpa using fun h => ce h.symm
            clear ce
            go_enter Tryd.func11, Tryd.ntmps11
            go_wp2_with fail
            refine (HK.out _ n).mono ?_
            rintro e w1 ⟨rfl, m1⟩
            simp only [abZ, if_true, if_false, show ((1 : Int) = 0) = False by simp, show ((2 : Int) = 0) = False by simp, show ((2 : Int) = 1) = False by simp, show ((3 : Int) = 0) = False by simp, show ((3 : Int) = 1) = False by simp, show ((3 : Int) = 2) = False by simp, show ((4 : Int) = 0) = False by simp, show ((4 : Int) = 1) = False by simp, show ((4 : Int) = 2) = False by simp, show ((4 : Int) = 3) = False by simp]
            have hc := (n.mod m1 (fun e => e)).1.cell
            go_wp2_with fail
            go_quiet (fail)
            rw [HP.out]
            go_wp2
            go_ret2
            exact ⟨rfl, m1.drewN _⟩
        · clear gk cg
          simp only [if_true, if_false]
          go_enter Tryd.func11, Tryd.ntmps11
          go_wp2_with fail
          refine (HK.out _ n).mono ?_
          rintro e w1 ⟨rfl, m1⟩
          simp only [abZ, if_true, if_false, show ((1 : Int) = 0) = False by simp, show ((2 : Int) = 0) = False by simp, show ((2 : Int) = 1) = False by simp, show ((3 : Int) = 0) = False by simp, show ((3 : Int) = 1) = False by simp, show ((3 : Int) = 2) = False by simp, show ((4 : Int) = 0) = False by simp, show ((4 : Int) = 1) = False by simp, show ((4 : Int) = 2) = False by simp, show ((4 : Int) = 3) = False by simp]
          have hc := (n.mod m1 (fun e => e)).1.cell
          go_wp2
          go_ret2
          exact ⟨rfl, m1⟩
        · have t0 : 0 ≤ k % s := Int.emod_nonneg _ (by omega)
          have t1 : k % s < s := Int.emod_lt_of_pos _ (by omega)
          have t2 : 0 ≤ k % s * lv := Int.mul_nonneg t0 (by omega)
          have t3 : k % s * lv ≤ 16 := by
            have := Int.mul_le_mul (show k % s ≤ 4 by omega) q2 (by omega) (by omega); omega
          clear gk cg
          simp only [if_true, if_false, show ((3 : Int) = 2) = False by simp]
          go_enter Tryd.func11, Tryd.ntmps11
          go_wp2_with fail
          refine (HK.out _ n).mono ?_
          rintro e w1 ⟨rfl, m1⟩
          simp only [abZ, if_true, if_false, show ((1 : Int) = 0) = False by simp, show ((2 : Int) = 0) = False by simp, show ((2 : Int) = 1) = False by simp, show ((3 : Int) = 0) = False by simp, show ((3 : Int) = 1) = False by simp, show ((3 : Int) = 2) = False by simp, show ((4 : Int) = 0) = False by simp, show ((4 : Int) = 1) = False by simp, show ((4 : Int) = 2) = False by simp, show ((4 : Int) = 3) = False by simp]
          have hc := (n.mod m1 (fun e => e)).1.cell
          go_wp2_with fail
          go_quiet (fail)
          go_wp2
          go_ret2
          exact ⟨rfl, m1.drewN _⟩
        · clear gk cg
          simp only [if_true, if_false, show ((4 : Int) = 2) = False by simp, show ((4 : Int) = 3) = False by simp]
          by_cases ce : d / 2 = k % lv
          · rw [if_pos ce]
            have he : (k % lv == d / 2) = true := by simpa using ce.symm
            have he2 : (k % lv != d / 2) = false := by simpa using ce.symm
            clear ce
            go_enter Tryd.func11, Tryd.ntmps11
            go_wp2_with fail
            refine (HK.out _ n).mono ?_
            rintro e w1 ⟨rfl, m1⟩
            simp only [abZ, if_true, if_false, show ((1 : Int) = 0) = False by simp, show ((2 : Int) = 0) = False by simp, show ((2 : Int) = 1) = False by simp, show ((3 : Int) = 0) = False by simp, show ((3 : Int) = 1) = False by simp, show ((3 : Int) = 2) = False by simp, show ((4 : Int) = 0) = False by simp, show ((4 : Int) = 1) = False by simp, show ((4 : Int) = 2) = False by simp, show ((4 : Int) = 3) = False by simp]
            have hc := (n.mod m1 (fun e => e)).1.cell
            go_wp2
            go_ret2
            exact ⟨rfl, m1⟩
          · rw [if_neg ce]
            have he : (k % lv == d / 2) = false := by simpa using fun h => ce h.symm
            have he2 : (k % lv != d / 2) = true := by simpa using fun h => ce h.symm
            clear ce
            go_enter Tryd.func11, Tryd.ntmps11
            go_wp2_with fail
            refine (HK.out _ n).mono ?_
            rintro e w1 ⟨rfl, m1⟩
            simp only [abZ, if_true, if_false, show ((1 : Int) = 0) = False by simp, show ((2 : Int) = 0) = False by simp, show ((2 : Int) = 1) = False by simp, show ((3 : Int) = 0) = False by simp, show ((3 : Int) = 1) = False by simp, show ((3 : Int) = 2) = False by simp, show ((4 : Int) = 0) = False by simp, show ((4 : Int) = 1) = False by simp, show ((4 : Int) = 2) = False by simp, show ((4 : Int) = 3) = False by simp]
            have hc := (n.mod m1 (fun e => e)).1.cell
            go_wp2
            go_ret2
            exact ⟨rfl, m1⟩
      · have hpm := HPM.out.2 hneg
        have HP := Lib.hid hpm
        clear hpm HPM
        rcases hgs with rfl | rfl | rfl | rfl
        · have hgk : k < h := gk rfl
          have t0 : 0 ≤ k / 2 := by omega
          have t1 : k / 2 ≤ 4 := by omega
          have t2 : 0 ≤ k / 2 * s := Int.mul_nonneg t0 (by omega)
          have t3 : k / 2 * s ≤ 16 := by
            have := Int.mul_le_mul t1 o4 (by omega) (by omega); omega
          simp only [if_true, if_false, show ((1 : Int) = 2) = False by simp, show ((1 : Int) = 3) = False by simp, show ((1 : Int) = 4) = False by simp]
          clear gk cg
          by_cases ce : d / 2 = k / 2
          · rw [if_pos ce]
            have he : (k / 2 == d / 2) = true := by simpa using ce.symm
            clear ce
            go_enter Tryd.func11, Tryd.ntmps11
            go_wp2_with fail
            refine (HK.out _ n).mono ?_
            rintro e w1 ⟨rfl, m1⟩
            simp only [abZ, if_true, if_false, show ((1 : Int) = 0) = False by simp, show ((2 : Int) = 0) = False by simp, show ((2 : Int) = 1) = False by simp, show ((3 : Int) = 0) = False by simp, show ((3 : Int) = 1) = False by simp, show ((3 : Int) = 2) = False by simp, show ((4 : Int) = 0) = False by simp, show ((4 : Int) = 1) = False by simp, show ((4 : Int) = 2) = False by simp, show ((4 : Int) = 3) = False by simp]
            have hc := (n.mod m1 (fun e => e)).1.cell
            go_wp2
            go_ret2
            exact ⟨rfl, m1⟩
          · rw [if_neg ce]
            have he : (k / 2 == d / 2) = false := by simpa using fun h => ce h.symm
            clear ce
            go_enter Tryd.func11, Tryd.ntmps11
            go_wp2_with fail
            refine (HK.out _ n).mono ?_
            rintro e w1 ⟨rfl, m1⟩
            simp only [abZ, if_true, if_false, show ((1 : Int) = 0) = False by simp, show ((2 : Int) = 0) = False by simp, show ((2 : Int) = 1) = False by simp, show ((3 : Int) = 0) = False by simp, show ((3 : Int) = 1) = False by simp, show ((3 : Int) = 2) = False by simp, show ((4 : Int) = 0) = False by simp, show ((4 : Int) = 1) = False by simp, show ((4 : Int) = 2) = False by simp, show ((4 : Int) = 3) = False by simp]
            have hc := (n.mod m1 (fun e => e)).1.cell
            go_wp2_with fail
            go_quiet (fail)
            rw [HP.out]
            go_wp2
            go_ret2
            exact ⟨rfl, m1.drewN _⟩
        · clear gk cg
          simp only [if_true, if_false]
          go_enter Tryd.func11, Tryd.ntmps11
          go_wp2_with fail
          refine (HK.out _ n).mono ?_
          rintro e w1 ⟨rfl, m1⟩
          simp only [abZ, if_true, if_false, show ((1 : Int) = 0) = False by simp, show ((2 : Int) = 0) = False by simp, show ((2 : Int) = 1) = False by simp, show ((3 : Int) = 0) = False by simp, show ((3 : Int) = 1) = False by simp, show ((3 : Int) = 2) = False by simp, show ((4 : Int) = 0) = False by simp, show ((4 : Int) = 1) = False by simp, show ((4 : Int) = 2) = False by simp, show ((4 : Int) = 3) = False by simp]
          have hc := (n.mod m1 (fun e => e)).1.cell
          go_wp2
          go_ret2
          exact ⟨rfl, m1⟩
        · have t0 : 0 ≤ k % s := Int.emod_nonneg _ (by omega)
          have t1 : k % s < s := Int.emod_lt_of_pos _ (by omega)
          have t2 : 0 ≤ k % s * lv := Int.mul_nonneg t0 (by omega)
          have t3 : k % s * lv ≤ 16 := by
            have := Int.mul_le_mul (show k % s ≤ 4 by omega) q2 (by omega) (by omega); omega
          clear gk cg
          simp only [if_true, if_false, show ((3 : Int) = 2) = False by simp]
          go_enter Tryd.func11, Tryd.ntmps11
          go_wp2_with fail
          refine (HK.out _ n).mono ?_
          rintro e w1 ⟨rfl, m1⟩
          simp only [abZ, if_true, if_false, show ((1 : Int) = 0) = False by simp, show ((2 : Int) = 0) = False by simp, show ((2 : Int) = 1) = False by simp, show ((3 : Int) = 0) = False by simp, show ((3 : Int) = 1) = False by simp, show ((3 : Int) = 2) = False by simp, show ((4 : Int) = 0) = False by simp, show ((4 : Int) = 1) = False by simp, show ((4 : Int) = 2) = False by simp, show ((4 : Int) = 3) = False by simp]
          have hc := (n.mod m1 (fun e => e)).1.cell
          go_wp2_with fail
          go_quiet (fail)
          go_wp2
          go_ret2
          exact ⟨rfl, m1.drewN _⟩
        · clear gk cg
          simp only [if_true, if_false, show ((4 : Int) = 2) = False by simp, show ((4 : Int) = 3) = False by simp]
          by_cases ce : d / 2 = k % lv
          · rw [if_pos ce]
            have he : (k % lv == d / 2) = true := by simpa using ce.symm
            have he2 : (k % lv != d / 2) = false := by simpa using ce.symm
            clear ce
            go_enter Tryd.func11, Tryd.ntmps11
            go_wp2_with fail
            refine (HK.out _ n).mono ?_
            rintro e w1 ⟨rfl, m1⟩
            simp only [abZ, if_true, if_false, show ((1 : Int) = 0) = False by simp, show ((2 : Int) = 0) = False by simp, show ((2 : Int) = 1) = False by simp, show ((3 : Int) = 0) = False by simp, show ((3 : Int) = 1) = False by simp, show ((3 : Int) = 2) = False by simp, show ((4 : Int) = 0) = False by simp, show ((4 : Int) = 1) = False by simp, show ((4 : Int) = 2) = False by simp, show ((4 : Int) = 3) = False by simp]
            have hc := (n.mod m1 (fun e => e)).1.cell
            go_wp2
            go_ret2
            exact ⟨rfl, m1⟩
          · rw [if_neg ce]
            have he : (k % lv == d / 2) = false := by simpa using fun h => ce h.symm
            have he2 : (k % lv != d / 2) = true := by simpa using fun h => ce h.symm
            clear ce
            go_enter Tryd.func11, Tryd.ntmps11
            go_wp2_with fail
            refine (HK.out _ n).mono ?_
            rintro e w1 ⟨rfl, m1⟩
            simp only [abZ, if_true, if_false, show ((1 : Int) = 0) = False by simp, show ((2 : Int) = 0) = False by simp, show ((2 : Int) = 1) = False by simp, show ((3 : Int) = 0) = False by simp, show ((3 : Int) = 1) = False by simp, show ((3 : Int) = 2) = False by simp, show ((4 : Int) = 0) = False by simp, show ((4 : Int) = 1) = False by simp, show ((4 : Int) = 2) = False by simp, show ((4 : Int) = 3) = False by simp]
            have hc := (n.mod m1 (fun e => e)).1.cell
            go_wp2
            go_ret2
            exact ⟨rfl, m1⟩
    · rw [if_pos (by omega)]
      clear hpm
      have hg1 : ¬ g - 1 < 0 := by omega
      by_cases dn : d < 0
      · clear cd
        go_enter Tryd.func11, Tryd.ntmps11
        go_wp2_with fail
        refine (HK.out _ n).mono ?_
        rintro e w1 ⟨rfl, m1⟩
        have hc := (n.mod m1 (fun e => e)).1.cell
        go_wp2
        go_ret2
        exact ⟨rfl, m1⟩
      · have dh : h ≤ d := by omega
        clear cd
        go_enter Tryd.func11, Tryd.ntmps11
        go_wp2_with fail
        refine (HK.out _ n).mono ?_
        rintro e w1 ⟨rfl, m1⟩
        have hc := (n.mod m1 (fun e => e)).1.cell
        go_wp2
        go_ret2
        exact ⟨rfl, m1⟩
end Go.Proofs.YtflkdkghpoccgaaDoor
