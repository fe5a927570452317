/- The walk of TopoAsks. -/
import Derived.Test.YtflkdkghpoccgaaDoorTopoA
import Derived.Test.YtflkdkghpoccgaaDoorNameR
namespace Go.Proofs.YtflkdkghpoccgaaDoor
open Go.RowKit
set_option linter.unusedVariables false
set_option maxHeartbeats 8000000
set_option maxRecDepth 100000
theorem Nr.later {w : World} {b : Nat} {h lv s : Int} (n : Nr w b h lv s) (x : Later w) : Nr x.world b h lv s := n.mod x.mod (fun e => e)
theorem walk_asksNo (h s p d path x : Int) (w : World) (hn : h < 2 ∨ 8 < h ∨ s < 1 ∨ 4 < s) :
    Calls Tryd.prog 3 #[.int .i64 h, .int .i64 s, .int .i64 p, .int .i64 d, .int .i64 path, .int .i64 x] w fun e w' => e = .returned (.bool true) ∧ Mod (fun _ => False) w w' := by
  have H := Lib.hid hn
  clear hn
  go_enter Tryd.func3, Tryd.ntmps3
  go_wp2_with fail
  refine (newNo h s _ H.out).mono ?_
  rintro e w1 ⟨rfl, rfl⟩
  go_wp2_with fail
  refine (refNewNo h s _ H.out).mono ?_
  rintro e w1 ⟨rfl, rfl⟩
  go_wp2_with fail
  refine (awakeW _).mono ?_
  rintro e w1 ⟨rfl, m1⟩
  go_wp2
  go_ret
  exact ⟨rfl, m1⟩
theorem walk_asksIn (h s p d path x : Int) (w : World) (h1 : 2 ≤ h) (h2 : h ≤ 8) (h3 : 1 ≤ s) (h4 : s ≤ 4) :
    Calls Tryd.prog 3 #[.int .i64 h, .int .i64 s, .int .i64 p, .int .i64 d, .int .i64 path, .int .i64 x] w fun e w' => e = .returned (.bool true) ∧ Mod (fun _ => False) w w' := by
  obtain ⟨lv, hlv⟩ : ∃ lv, lv = (h + 1) / 2 := ⟨_, rfl⟩
  have ho : Okn h lv s := ⟨h1, h2, hlv, h3, h4⟩
  have hpb : 0 ≤ portsZ h lv s ∧ portsZ h lv s ≤ 48 := by
    have := portsZ_eq ho
    have := ho.m
    omega
  have hN : ∀ w : World, Calls Tryd.prog 6 #[.int .i64 h, .int .i64 s] w fun e w' => e = .returned (.tuple #[.pointer (some ⟨w.heap.size, 0, none⟩), .int .i64 0]) ∧ Nt w' w.heap.size h lv s ∧ Mod (fun _ => False) w w' := fun w => hlv ▸ newW h s w h1 h2 h3 h4
  have hR : ∀ w : World, Calls Tryd.prog 7 #[.int .i64 h, .int .i64 s] w fun e w' => e = .returned (.tuple #[.pointer (some ⟨w.heap.size, 0, none⟩), .int .i64 0]) ∧ Nr w' w.heap.size h lv s ∧ Mod (fun _ => False) w w' := fun w => hlv ▸ refNewW h s w h1 h2 h3 h4
  have HN := Lib.hid hN
  have HR := Lib.hid hR
  clear hN hR hlv
  obtain ⟨hp0, hp1⟩ := hpb
  generalize hP : portsZ h lv s = P at *
  have HP := Lib.hid hP
  clear hP
  go_enter Tryd.func3, Tryd.ntmps3
  go_wp2_with fail
  refine (HN.out _).mono ?_
  rintro e w1 ⟨rfl, n1, m1⟩
  generalize w.heap.size = b at *
  go_wp2_with fail
  refine (HR.out _).mono ?_
  rintro e w2 ⟨rfl, r2, m2⟩
  have n2 := n1.mod m2 (fun e => e)
  have m3 := m1.trans m2 (fun _ _ h => h)
  generalize w1.heap.size = c at *
  clear n1 m1 m2
  have hPr : ∀ w : World, Nr w c h lv s → Calls Tryd.prog 9 #[.pointer (some ⟨c, 0, none⟩)] w fun e w' => e = .returned (.int .i64 P) ∧ Mod (fun _ => False) w w' := fun w n => HP.out ▸ refPortsW c h lv s w n
  have HPR := Lib.hid hPr
  clear hPr
  go_wp2_with fail
  go_loopw [17] (fun x wr => ∃ k : Int, x = .int .i64 k ∧ -1 ≤ k ∧ k ≤ P + 1 ∧ Nt wr b h lv s ∧ Nr wr c h lv s ∧ Mod (fun _ => False) w wr) (fun x _ => (P + 2 - intOf x).toNat)
  case atStart => exact ⟨-1, rfl, by omega, by omega, n2, r2, m3⟩
  case round =>
    obtain ⟨k, rfl, hk0, hk1, n4, r4, m4⟩ := hrel
    clear n2 r2 m3
    go_wp2_with fail
    refine (HPR.out _ r4).mono ?_
    rintro e w5 ⟨rfl, m5⟩
    have n5 := n4.mod m5 (fun e => e)
    have r5 := r4.mod m5 (fun e => e)
    have m6 := m4.trans m5 (fun _ _ h => h)
    clear n4 r4 m4 m5
    by_cases hk : k ≤ P
    · go_wp2_with fail
      refine (nextW _ _ _ _ _ _ _ _ n5).mono ?_
      rintro e w6 ⟨rfl, m7⟩
      have n6 := n5.mod m7 (fun e => e)
      have r6 := r5.mod m7 (fun e => e)
      have m8 := m6.trans m7 (fun _ _ h => h)
      clear n5 r5 m6 m7
      go_wp2_with fail
      refine (refNextW _ _ _ _ _ _ _ _ r6).mono ?_
      rintro e w7 ⟨rfl, m9⟩
      have n7 := n6.mod m9 (fun e => e)
      have r7 := r6.mod m9 (fun e => e)
      have m10 := m8.trans m9 (fun _ _ h => h)
      clear n6 r6 m8 m9
      generalize nextZ h lv s k d path = z
      go_wp2_with fail
      refine (nameW _ _ _ _ _ _ n7).mono ?_
      rintro e w8 ⟨rfl, m11⟩
      have n8 := n7.mod m11 (fun e => e)
      have r8 := r7.mod m11 (fun e => e)
      have m12 := m10.trans m11 (fun _ _ h => h)
      clear n7 r7 m10 m11
      go_wp2_with fail
      refine (refNameW _ _ _ _ _ _ r8).mono ?_
      rintro e w9 ⟨rfl, m13⟩
      have n9 := n8.mod m13 (fun e => e)
      have r9 := r8.mod m13 (fun e => e)
      have m14 := m12.trans m13 (fun _ _ h => h)
      clear n8 r8 m12 m13
      generalize nameB lv s (kindZ h lv s k).1 (kindZ h lv s k).2 = t
      go_wp2
      go_roundw
      case rel => exact ⟨k + 1, by go_num, by omega, by omega, n9, r9, m14⟩
      case measure => simp [intOf]; omega
    · go_wp2_with fail
      all_goals
        refine (nextW _ _ _ _ _ _ _ _ n5).mono ?_
        rintro e w6 ⟨rfl, m7⟩
        have n6 := n5.mod m7 (fun e => e)
        have r6 := r5.mod m7 (fun e => e)
        have m8 := m6.trans m7 (fun _ _ h => h)
        clear n5 r5 m6 m7
        go_wp2_with fail
        refine (refNextW _ _ _ _ _ _ _ _ r6).mono ?_
        rintro e w7 ⟨rfl, m9⟩
        have n7 := n6.mod m9 (fun e => e)
        have r7 := r6.mod m9 (fun e => e)
        have m10 := m8.trans m9 (fun _ _ h => h)
        clear n6 r6 m8 m9
        generalize nextZ h lv s p d path = z
        have hup : ∃ U, (if 0 ≤ x ∧ x < h then x else -1) = U := ⟨_, rfl⟩
        first
          | rw [if_pos (by omega)] at hup
          | rw [if_neg (by omega)] at hup
        obtain ⟨U, hU⟩ := hup
        have c1 : ∀ y : Later w7, Calls Tryd.prog 12 #[.pointer (some ⟨b, 0, none⟩), .int .i64 p] y.world fun e w' => e = .returned (.string (nameB lv s (kindZ h lv s p).1 (kindZ h lv s p).2)) ∧ Mod (fun _ => False) y.world w' := fun y => nameW _ _ _ _ _ _ (n7.later y)
        have c2 : ∀ y : Later w7, Calls Tryd.prog 13 #[.pointer (some ⟨c, 0, none⟩), .int .i64 p] y.world fun e w' => e = .returned (.string (nameB lv s (kindZ h lv s p).1 (kindZ h lv s p).2)) ∧ Mod (fun _ => False) y.world w' := fun y => refNameW _ _ _ _ _ _ (r7.later y)
        have c3 : ∀ y : Later w7, Calls Tryd.prog 14 #[.pointer (some ⟨b, 0, none⟩)] y.world fun e w' => e = .returned (.int .i64 P) ∧ Mod (fun _ => False) y.world w' := fun y => HP.out ▸ portsW _ _ _ _ _ (n7.later y)
        have c4 : ∀ y : Later w7, Calls Tryd.prog 9 #[.pointer (some ⟨c, 0, none⟩)] y.world fun e w' => e = .returned (.int .i64 P) ∧ Mod (fun _ => False) y.world w' := fun y => HPR.out _ (r7.later y)
        have c5 : ∀ y : Later w7, Calls Tryd.prog 15 #[.pointer (some ⟨b, 0, none⟩)] y.world fun e w' => e = .returned (.int .i64 lv) ∧ Mod (fun _ => False) y.world w' := fun y => leavesW _ _ _ _ _ (n7.later y)
        have c6 : ∀ y : Later w7, Calls Tryd.prog 16 #[.pointer (some ⟨b, 0, none⟩), .int .i64 x] y.world fun e w' => e = .returned (.int .i64 (leafZ h x)) ∧ Mod (fun _ => False) y.world w' := fun y => leafW _ _ _ _ _ _ (n7.later y)
        have c7 : ∀ y : Later w7, Calls Tryd.prog 17 #[.pointer (some ⟨c, 0, none⟩), .int .i64 x] y.world fun e w' => e = .returned (.int .i64 (leafZ h x)) ∧ Mod (fun _ => False) y.world w' := fun y => refLeafW _ _ _ _ _ _ (r7.later y)
        have c8 : ∀ y : Later w7, Calls Tryd.prog 18 #[.pointer (some ⟨b, 0, none⟩), .int .i64 x] y.world fun e w' => e = .returned (.int .i64 (if 0 ≤ x ∧ x < h then x else -1)) ∧ Mod (fun _ => False) y.world w' := fun y => upW _ _ _ _ _ _ (n7.later y)
        have c9 : ∀ y : Later w7, Calls Tryd.prog 19 #[.pointer (some ⟨b, 0, none⟩), .int .i64 x, .int .i64 d] y.world fun e w' => e = .returned (.int .i64 (hopsZ h x d)) ∧ Mod (fun _ => False) y.world w' := fun y => hopsW _ _ _ _ _ _ _ (n7.later y)
        have c10 : ∀ y : Later w7, Calls Tryd.prog 20 #[.pointer (some ⟨c, 0, none⟩), .int .i64 x, .int .i64 d] y.world fun e w' => e = .returned (.int .i64 (hopsZ h x d)) ∧ Mod (fun _ => False) y.world w' := fun y => refHopsW _ _ _ _ _ _ _ (r7.later y)
        have hT := fun (y : Later w7) => (r7.later y).1.cell
        first
          | rw [if_pos (by omega)] at c8
          | rw [if_neg (by omega)] at c8
        generalize nameB lv s (kindZ h lv s p).1 (kindZ h lv s p).2 = t at c1 c2
        generalize leafZ h x = lf at c6 c7
        generalize hopsZ h x d = hp at c9 c10
        have C1 := Lib.hid c1
        have C2 := Lib.hid c2
        have C3 := Lib.hid c3
        have C4 := Lib.hid c4
        have C5 := Lib.hid c5
        have C6 := Lib.hid c6
        have C7 := Lib.hid c7
        have C8 := Lib.hid c8
        have C9 := Lib.hid c9
        have C10 := Lib.hid c10
        clear c1 c2 c3 c4 c5 c6 c7 c8 c9 c10 hU
        go_wp2_with fail
        refine region_later (by kernel_rfl) (by kernel_rfl) ?_
        repeat (go_big_quiet_step ((first
          | (go_at_call 12; exact later_call (C1.out _))
          | (go_at_call 13; exact later_call (C2.out _))
          | (go_at_call 14; exact later_call (C3.out _))
          | (go_at_call 9; exact later_call (C4.out _))
          | (go_at_call 15; exact later_call (C5.out _))
          | (go_at_call 16; exact later_call (C6.out _))
          | (go_at_call 17; exact later_call (C7.out _))
          | (go_at_call 18; exact later_call (C8.out _))
          | (go_at_call 19; exact later_call (C9.out _))
          | (go_at_call 20; exact later_call (C10.out _))
          | (go_at_call 8; exact later_call (awakeW _)))))
        refine wpQuiet_nil ?_
        intro _ hw'
        obtain ⟨y, hw''⟩ := hw'
        subst hw''
        go_wp2
        go_ret
        exact ⟨rfl, m10.trans y.mod (fun _ _ h => h)⟩
theorem walk_asks (h s p d path x : Int) (w : World) :
    Calls Tryd.prog 3 #[.int .i64 h, .int .i64 s, .int .i64 p, .int .i64 d, .int .i64 path, .int .i64 x] w fun e w' => e = .returned (.bool true) ∧ Mod (fun _ => False) w w' := by
  by_cases hn : h < 2 ∨ 8 < h ∨ s < 1 ∨ 4 < s
  · exact walk_asksNo h s p d path x w hn
  · exact walk_asksIn h s p d path x w (by omega) (by omega) (by omega) (by omega)
theorem walk_topoAsks (h : Int) (wh : (Lit.int .i64 h).wf = true) (s : Int) (ws : (Lit.int .i64 s).wf = true) (p : Int) (wp : (Lit.int .i64 p).wf = true) (d : Int) (wd : (Lit.int .i64 d).wf = true) (path : Int) (wa : (Lit.int .i64 path).wf = true) (x : Int) (wx : (Lit.int .i64 x).wf = true) (w : World) :
    Calls Tryd.prog 3 #[.int .i64 h, .int .i64 s, .int .i64 p, .int .i64 d, .int .i64 path, .int .i64 x] w fun e w' => e = .returned (.bool true) ∧ Below w.heap.size w w' :=
  (walk_asks h s p d path x w).mono fun _ _ ⟨e, m⟩ => ⟨e, m.below⟩
end Go.Proofs.YtflkdkghpoccgaaDoor
