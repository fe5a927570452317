/- Contracts of package topo. -/
import Derived.Test.YtflkdkghpoccgaaDoorRows
import Derived.Test.YtflkdkghpoccgaaDoorTopoP
import Derived.Test.YtflkdkghpoccgaaDoorMem
import Derived.Test.YtflkdkghpoccgaaDoorReg
import Derived.Lib.Hide
import Derived.Outline
import Derived.WalkLawsBesides
namespace Go.Proofs.YtflkdkghpoccgaaDoor
open Go.RowKit
set_option linter.unusedVariables false
set_option maxHeartbeats 2000000
set_option maxRecDepth 100000
/-- A net in memory. -/
def Nt (w : World) (b : Nat) (h lv s : Int) : Prop := Blk w b 43 #[.int .i64 h, .int .i64 lv, .int .i64 s] ∧ Okn h lv s
theorem Nt.mod {S : Nat → Prop} {w w' : World} (m : Mod S w w') {b : Nat} {h lv s : Int} (n : Nt w b h lv s) (hb : ¬ S b) : Nt w' b h lv s := ⟨n.1.mod m hb, n.2⟩
theorem Nt.later {w : World} {b : Nat} {h lv s : Int} (n : Nt w b h lv s) (x : Later w) : Nt x.world b h lv s := n.mod x.mod (fun e => e)
theorem newW (h s : Int) (w : World) (h1 : 2 ≤ h) (h2 : h ≤ 8) (h3 : 1 ≤ s) (h4 : s ≤ 4) :
    Calls Tryd.prog 6 #[.int .i64 h, .int .i64 s] w fun e w' => e = .returned (.tuple #[.pointer (some ⟨w.heap.size, 0, none⟩), .int .i64 0]) ∧ Nt w' w.heap.size h ((h + 1) / 2) s ∧ Mod (fun _ => False) w w' := by
  go_enter Tryd.func6, Tryd.ntmps6
  go_wp2
  go_ret2
  refine ⟨rfl, ⟨?_, h1, h2, rfl, h3, h4⟩, (Mod.refl _ _).alloc _⟩
  rw [show h + 2 - 1 = h + 1 by omega]
  exact Blk.new w 43 #[.int .i64 h, .int .i64 ((h + 1) / 2), .int .i64 s]
theorem newNo (h s : Int) (w : World) (hn : h < 2 ∨ 8 < h ∨ s < 1 ∨ 4 < s) :
    Calls Tryd.prog 6 #[.int .i64 h, .int .i64 s] w fun e w' => e = .returned (.tuple #[.pointer none, .int .i64 1]) ∧ w = w' := by
  go_enter Tryd.func6, Tryd.ntmps6
  go_wp2
  all_goals
    go_ret2
    exact ⟨rfl, rfl⟩
theorem hasNone (x : Int) (w : World) :
    Calls Tryd.prog 23 #[.pointer none, .int .i64 x] w fun e w' => e = .returned (.bool false) ∧ Mod (fun _ => False) w w' := by
  go_enter Tryd.func23, Tryd.ntmps23
  go_wp2
  go_ret
  exact ⟨rfl, Mod.refl _ _⟩
theorem hasW (b : Nat) (h lv s x : Int) (w : World) (n : Nt w b h lv s) :
    Calls Tryd.prog 23 #[.pointer (some ⟨b, 0, none⟩), .int .i64 x] w fun e w' => e = .returned (.bool (decide (0 ≤ x ∧ x < h))) ∧ Mod (fun _ => False) w w' := by
  have hc := n.1.cell
  by_cases h0 : 0 ≤ x
  · by_cases h1 : x < h
    · rw [decide_eq_true (And.intro h0 h1)]
      go_enter Tryd.func23, Tryd.ntmps23
      go_wp2
      go_ret
      exact ⟨rfl, Mod.refl _ _⟩
    · rw [decide_eq_false (fun e => h1 e.2)]
      go_enter Tryd.func23, Tryd.ntmps23
      go_wp2
      go_ret
      exact ⟨rfl, Mod.refl _ _⟩
  · rw [decide_eq_false (fun e => h0 e.1)]
    go_enter Tryd.func23, Tryd.ntmps23
    go_wp2
    go_ret
    exact ⟨rfl, Mod.refl _ _⟩
theorem leafW (b : Nat) (h lv s x : Int) (w : World) (n : Nt w b h lv s) :
    Calls Tryd.prog 16 #[.pointer (some ⟨b, 0, none⟩), .int .i64 x] w fun e w' => e = .returned (.int .i64 (leafZ h x)) ∧ Mod (fun _ => False) w w' := by
  have ho := n.2
  obtain ⟨o1, o2, _⟩ := ho
  unfold leafZ
  by_cases hx : x < 0 ∨ h ≤ x
  · have hd : decide (0 ≤ x ∧ x < h) = false := by rw [decide_eq_false_iff_not]; omega
    rw [if_pos hx]
    clear hx
    go_enter Tryd.func16, Tryd.ntmps16
    go_wp2_with fail
    refine (hasW _ _ _ _ _ _ n).mono ?_
    rintro e w1 ⟨rfl, m1⟩
    rw [hd]
    go_wp2
    go_ret
    exact ⟨rfl, m1⟩
  · have hd : decide (0 ≤ x ∧ x < h) = true := by rw [decide_eq_true_iff]; omega
    rw [if_neg hx]
    have hx1 : 0 ≤ x := by omega
    have hx2 : x < h := by omega
    clear hx
    go_enter Tryd.func16, Tryd.ntmps16
    go_wp2_with fail
    refine (hasW _ _ _ _ _ _ n).mono ?_
    rintro e w1 ⟨rfl, m1⟩
    rw [hd]
    go_wp2
    go_ret
    exact ⟨rfl, m1⟩
theorem leafNone (x : Int) (w : World) :
    Calls Tryd.prog 16 #[.pointer none, .int .i64 x] w fun e w' => e = .returned (.int .i64 (-1)) ∧ Mod (fun _ => False) w w' := by
  go_enter Tryd.func16, Tryd.ntmps16
  go_wp2_with fail
  refine (hasNone _ _).mono ?_
  rintro e w1 ⟨rfl, m1⟩
  go_wp2
  go_ret
  exact ⟨rfl, m1⟩
theorem upW (b : Nat) (h lv s x : Int) (w : World) (n : Nt w b h lv s) :
    Calls Tryd.prog 18 #[.pointer (some ⟨b, 0, none⟩), .int .i64 x] w fun e w' => e = .returned (.int .i64 (if 0 ≤ x ∧ x < h then x else -1)) ∧ Mod (fun _ => False) w w' := by
  by_cases hx : 0 ≤ x ∧ x < h
  · have hd : decide (0 ≤ x ∧ x < h) = true := by rw [decide_eq_true_iff]; omega
    rw [if_pos hx]
    clear hx
    go_enter Tryd.func18, Tryd.ntmps18
    go_wp2_with fail
    refine (hasW _ _ _ _ _ _ n).mono ?_
    rintro e w1 ⟨rfl, m1⟩
    rw [hd]
    go_wp2
    go_ret
    exact ⟨rfl, m1⟩
  · have hd : decide (0 ≤ x ∧ x < h) = false := by rw [decide_eq_false_iff_not]; omega
    rw [if_neg hx]
    clear hx
    go_enter Tryd.func18, Tryd.ntmps18
    go_wp2_with fail
    refine (hasW _ _ _ _ _ _ n).mono ?_
    rintro e w1 ⟨rfl, m1⟩
    rw [hd]
    go_wp2
    go_ret
    exact ⟨rfl, m1⟩
theorem upNone (x : Int) (w : World) :
    Calls Tryd.prog 18 #[.pointer none, .int .i64 x] w fun e w' => e = .returned (.int .i64 (-1)) ∧ Mod (fun _ => False) w w' := by
  go_enter Tryd.func18, Tryd.ntmps18
  go_wp2_with fail
  refine (hasNone _ _).mono ?_
  rintro e w1 ⟨rfl, m1⟩
  go_wp2
  go_ret
  exact ⟨rfl, m1⟩
theorem leavesW (b : Nat) (h lv s : Int) (w : World) (n : Nt w b h lv s) :
    Calls Tryd.prog 15 #[.pointer (some ⟨b, 0, none⟩)] w fun e w' => e = .returned (.int .i64 lv) ∧ Mod (fun _ => False) w w' := by
  have hc := n.1.cell
  go_enter Tryd.func15, Tryd.ntmps15
  go_wp2
  go_ret
  exact ⟨rfl, Mod.refl _ _⟩
theorem leavesNone (w : World) :
    Calls Tryd.prog 15 #[.pointer none] w fun e w' => e = .returned (.int .i64 0) ∧ Mod (fun _ => False) w w' := by
  go_enter Tryd.func15, Tryd.ntmps15
  go_wp2
  go_ret
  exact ⟨rfl, Mod.refl _ _⟩
theorem portsNone (w : World) :
    Calls Tryd.prog 14 #[.pointer none] w fun e w' => e = .returned (.int .i64 0) ∧ Mod (fun _ => False) w w' := by
  go_enter Tryd.func14, Tryd.ntmps14
  go_wp2
  go_ret
  exact ⟨rfl, Mod.refl _ _⟩
theorem portsW (b : Nat) (h lv s : Int) (w : World) (n : Nt w b h lv s) :
    Calls Tryd.prog 14 #[.pointer (some ⟨b, 0, none⟩)] w fun e w' => e = .returned (.int .i64 (portsZ h lv s)) ∧ Mod (fun _ => False) w w' := by
  have hc := n.1.cell
  obtain ⟨o1, o2, olv, o3, o4⟩ := n.2
  obtain ⟨q1, q2, q3, q4, q5⟩ := n.2.m
  have q6 : 0 ≤ 2 * lv * s := by omega
  have q7 : 2 * lv * s ≤ 32 := by omega
  clear q5 olv
  go_enter Tryd.func14, Tryd.ntmps14
  go_wp2_with fail
  go_quiet (fail)
  go_wp2
  go_ret
  exact ⟨rfl, (Mod.refl _ _).drewN _⟩
end Go.Proofs.YtflkdkghpoccgaaDoor
