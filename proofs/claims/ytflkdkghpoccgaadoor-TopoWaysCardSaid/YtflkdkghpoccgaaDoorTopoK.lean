/- Contracts of package topo: ports. -/
import Derived.Test.YtflkdkghpoccgaaDoorTopoW
namespace Go.Proofs.YtflkdkghpoccgaaDoor
open Go.RowKit
set_option linter.unusedVariables false
set_option maxHeartbeats 4000000
set_option maxRecDepth 100000
theorem portsZ_eq {h lv s : Int} (o : Okn h lv s) : portsZ h lv s = 2 * h + 2 * (lv * s) := by unfold portsZ; rw [o.m.2.2.2.2]
theorem kindNone (p : Int) (w : World) :
    Calls Tryd.prog 22 #[.pointer none, .int .i64 p] w fun e w' => e = .returned (.tuple #[.int .i64 0, .int .i64 0]) ∧ Mod (fun _ => False) w w' := by
  go_enter Tryd.func22, Tryd.ntmps22
  go_wp2
  go_ret2
  exact ⟨rfl, Mod.refl _ _⟩
theorem kindZ_bd {h lv s : Int} (o : Okn h lv s) (p : Int) : 0 ≤ (kindZ h lv s p).1 ∧ (kindZ h lv s p).1 ≤ 4 ∧ 0 ≤ (kindZ h lv s p).2 ∧ (kindZ h lv s p).2 < 16 := by
  have := portsZ_eq o
  have := o.m
  obtain ⟨h1, h2, h3, h4, h5⟩ := o
  unfold kindZ
  split
  · simp
  · split
    · exact ⟨by simp, by simp, by simp; omega, by simp; omega⟩
    · split
      · exact ⟨by simp, by simp, by simp; omega, by simp; omega⟩
      · split
        · exact ⟨by simp, by simp, by simp; omega, by simp; omega⟩
        · exact ⟨by simp, by simp, by simp; omega, by simp; omega⟩

theorem kindZ_up (h lv s p : Int) : (kindZ h lv s p).1 = 1 → (kindZ h lv s p).2 < h := by
  unfold kindZ
  split
  · simp
  · split
    · simp; omega
    · split
      · simp
      · split <;> simp

theorem kindW (b : Nat) (h lv s p : Int) (w : World) (n : Nt w b h lv s) :
    Calls Tryd.prog 22 #[.pointer (some ⟨b, 0, none⟩), .int .i64 p] w fun e w' => e = .returned (.tuple #[.int .i64 (kindZ h lv s p).1, .int .i64 (kindZ h lv s p).2]) ∧ Mod (fun _ => False) w w' := by
  have hpz := portsZ_eq n.2
  obtain ⟨o1, o2, olv, o3, o4⟩ := n.2
  obtain ⟨q1, q2, q3, q4, q5⟩ := n.2.m
  clear q5 olv
  by_cases c0 : p < 0
  · rw [show kindZ h lv s p = (0, 0) by unfold kindZ; rw [if_pos (Or.inl c0)]]
    clear hpz
    go_enter Tryd.func22, Tryd.ntmps22
    go_wp2
    go_ret2
    exact ⟨rfl, Mod.refl _ _⟩
  · by_cases c1 : portsZ h lv s ≤ p
    · rw [show kindZ h lv s p = (0, 0) by unfold kindZ; rw [if_pos (Or.inr c1)]]
      clear hpz
      go_enter Tryd.func22, Tryd.ntmps22
      go_wp2_with fail
      refine (portsW _ _ _ _ _ n).mono ?_
      rintro e w1 ⟨rfl, m1⟩
      go_wp2
      go_ret2
      exact ⟨rfl, m1⟩
    · have hpl : p < 2 * h + 2 * (lv * s) := by omega
      have hne : ¬ (p < 0 ∨ portsZ h lv s ≤ p) := by omega
      have hnp : p < portsZ h lv s := by omega
      clear hpz c1

      by_cases c2 : p < h
      · rw [show kindZ h lv s p = (1, p) by unfold kindZ; rw [if_neg hne, if_pos c2]]
        clear hne
        go_enter Tryd.func22, Tryd.ntmps22
        go_wp2_with fail
        refine (portsW _ _ _ _ _ n).mono ?_
        rintro e w1 ⟨rfl, m1⟩
        have hc := (n.mod m1 (fun e => e)).1.cell
        go_wp2_with fail
        go_wp2
        go_ret2
        exact ⟨rfl, m1⟩
      · by_cases c3 : p < 2 * h
        · rw [show kindZ h lv s p = (2, p - h) by unfold kindZ; rw [if_neg hne, if_neg c2, if_pos c3]]
          clear hne
          go_enter Tryd.func22, Tryd.ntmps22
          go_wp2_with fail
          refine (portsW _ _ _ _ _ n).mono ?_
          rintro e w1 ⟨rfl, m1⟩
          have hc := (n.mod m1 (fun e => e)).1.cell
          go_wp2_with fail
          go_quiet (fail)
          go_wp2
          go_ret2
          exact ⟨rfl, m1.drewN _⟩
        · by_cases c4 : p < 2 * h + lv * s
          · rw [show kindZ h lv s p = (3, p - 2 * h) by unfold kindZ; rw [if_neg hne, if_neg c2, if_neg c3, if_pos c4]]
            clear hne
            go_enter Tryd.func22, Tryd.ntmps22
            go_wp2_with fail
            refine (portsW _ _ _ _ _ n).mono ?_
            rintro e w1 ⟨rfl, m1⟩
            have hc := (n.mod m1 (fun e => e)).1.cell
            go_wp2_with fail
            go_quiet (fail)
            go_wp2
            go_ret2
            exact ⟨rfl, m1.drewN _⟩
          · rw [show kindZ h lv s p = (4, p - 2 * h - lv * s) by unfold kindZ; rw [if_neg hne, if_neg c2, if_neg c3, if_neg c4]]
            clear hne
            go_enter Tryd.func22, Tryd.ntmps22
            go_wp2_with fail
            refine (portsW _ _ _ _ _ n).mono ?_
            rintro e w1 ⟨rfl, m1⟩
            have hc := (n.mod m1 (fun e => e)).1.cell
            go_wp2_with fail
            go_quiet (fail)
            go_wp2_with fail
            go_quiet (fail)
            go_wp2
            go_ret2
            exact ⟨rfl, (m1.drewN _).drewN _⟩
theorem downW (b : Nat) (h lv s l x : Int) (w : World) (n : Nt w b h lv s) (hl : 0 ≤ l) :
    Calls Tryd.prog 24 #[.pointer (some ⟨b, 0, none⟩), .int .i64 l, .int .i64 x] w fun e w' => e = .returned (.int .i64 (if leafZ h x = l then h + x else -1)) ∧ Mod (fun _ => False) w w' := by
  obtain ⟨o1, o2, olv, o3, o4⟩ := n.2
  have hxl : leafZ h x = l → 0 ≤ x ∧ x < h := fun e => by
    unfold leafZ at e
    split at e <;> omega
  by_cases c : leafZ h x = l
  · rw [if_pos c]
    obtain ⟨x1, x2⟩ := hxl c
    have hd : (leafZ h x == l) = true := by simpa using c
    have hd2 : (leafZ h x != l) = false := by simpa using c
    clear c hxl olv
    go_enter Tryd.func24, Tryd.ntmps24
    go_wp2_with fail
    refine (leafW _ _ _ _ _ _ n).mono ?_
    rintro e w1 ⟨rfl, m1⟩
    have hc := (n.mod m1 (fun e => e)).1.cell
    go_wp2
    go_ret
    exact ⟨rfl, m1⟩
  · rw [if_neg c]
    have hd : (leafZ h x == l) = false := by simpa using c
    have hd2 : (leafZ h x != l) = true := by simpa using c
    clear c hxl olv
    go_enter Tryd.func24, Tryd.ntmps24
    go_wp2_with fail
    refine (leafW _ _ _ _ _ _ n).mono ?_
    rintro e w1 ⟨rfl, m1⟩
    go_wp2
    go_ret
    exact ⟨rfl, m1⟩
end Go.Proofs.YtflkdkghpoccgaaDoor
