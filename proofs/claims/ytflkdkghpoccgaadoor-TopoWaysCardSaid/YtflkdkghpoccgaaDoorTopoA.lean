/- What the document fixes; a number from 0 to ahead of n. -/
import Derived.Test.YtflkdkghpoccgaaDoorNameT
namespace Go.Proofs.YtflkdkghpoccgaaDoor
open Go.RowKit
set_option linter.unusedVariables false
set_option maxHeartbeats 2000000
set_option maxRecDepth 100000
theorem awakeW (w : World) : Calls Tryd.prog 8 #[] w fun e w' => e = .returned (.bool true) ∧ Mod (fun _ => False) w w' := by
  have hn : ∀ w : World, Calls Tryd.prog 6 #[.int .i64 4, .int .i64 1] w fun e w' => e = .returned (.tuple #[.pointer (some ⟨w.heap.size, 0, none⟩), .int .i64 0]) ∧ Nt w' w.heap.size 4 2 1 ∧ Mod (fun _ => False) w w' := fun w => newW 4 1 w (by decide) (by decide) (by decide) (by decide)
  have hp : ∀ (w : World) (b : Nat), Nt w b 4 2 1 → Calls Tryd.prog 14 #[.pointer (some ⟨b, 0, none⟩)] w fun e w' => e = .returned (.int .i64 12) ∧ Mod (fun _ => False) w w' := fun w b n => portsW b 4 2 1 w n
  have hu : ∀ (w : World) (b : Nat), Nt w b 4 2 1 → Calls Tryd.prog 18 #[.pointer (some ⟨b, 0, none⟩), .int .i64 3] w fun e w' => e = .returned (.int .i64 3) ∧ Mod (fun _ => False) w w' := fun w b n => upW b 4 2 1 3 w n
  have hm : ∀ (w : World) (b : Nat), Nt w b 4 2 1 → Calls Tryd.prog 12 #[.pointer (some ⟨b, 0, none⟩), .int .i64 0] w fun e w' => e = .returned (.string ⟨#[104, 48]⟩) ∧ Mod (fun _ => False) w w' := fun w b n => by
    have := nameW b 4 2 1 0 w n
    rw [show nameB 2 1 (kindZ 4 2 1 0).1 (kindZ 4 2 1 0).2 = ⟨#[104, 48]⟩ by decide +kernel] at this
    exact this
  have hh : ∀ (w : World) (b : Nat), Nt w b 4 2 1 → Calls Tryd.prog 19 #[.pointer (some ⟨b, 0, none⟩), .int .i64 0, .int .i64 3] w fun e w' => e = .returned (.int .i64 4) ∧ Mod (fun _ => False) w w' := fun w b n => hopsW b 4 2 1 0 3 w n
  have HN := Lib.hid hn
  have HP := Lib.hid hp
  have HU := Lib.hid hu
  have HM := Lib.hid hm
  have HH := Lib.hid hh
  clear hn hp hu hm hh
  go_enter Tryd.func8, Tryd.ntmps8
  go_wp2_with fail
  refine (HN.out _).mono ?_
  rintro e w1 ⟨rfl, n1, m1⟩
  go_wp2_with fail
  refine (newNo 1 1 _ (by omega)).mono ?_
  rintro e w2 ⟨rfl, rfl⟩
  go_wp2_with fail
  refine (HP.out _ _ n1).mono ?_
  rintro e w2 ⟨rfl, m2⟩
  have n2 := n1.mod m2 (fun e => e)
  go_wp2_with fail
  refine (leavesW _ _ _ _ _ n2).mono ?_
  rintro e w3 ⟨rfl, m3⟩
  have n3 := n2.mod m3 (fun e => e)
  go_wp2_with fail
  refine (HU.out _ _ n3).mono ?_
  rintro e w4 ⟨rfl, m4⟩
  have n4 := n3.mod m4 (fun e => e)
  go_wp2_with fail
  refine (HM.out _ _ n4).mono ?_
  rintro e w5 ⟨rfl, m5⟩
  have n5 := n4.mod m5 (fun e => e)
  go_wp2_with fail
  refine (HH.out _ _ n5).mono ?_
  rintro e w6 ⟨rfl, m6⟩
  go_wp2
  go_ret
  exact ⟨rfl, ((((m1.trans m2 (fun _ _ h => h)).trans m3 (fun _ _ h => h)).trans m4 (fun _ _ h => h)).trans m5 (fun _ _ h => h)).trans m6 (fun _ _ h => h)⟩
theorem roundW (k n : Int) (hk : -9223372036854775808 ≤ k) (hk' : k ≤ 9223372036854775807) (h1 : 1 ≤ n) (h2 : n ≤ 1099511627776) (w : World) :
    Calls Tryd.prog 21 #[.int .i64 k, .int .i64 n] w fun e w' => e = .returned (.int .i64 (k % n)) ∧ w = w' := by
  have hb := tmod_bd (p := k) (s := n) (by omega)
  have he : k % n = if k.tmod n < 0 then k.tmod n + n else k.tmod n := by
    have hp := tmod_pos (p := k) (s := n) (by omega)
    rw [← hp]
    split
    · rw [Int.tmod_eq_of_lt (by omega) (by omega)]
    · have h3 : (k.tmod n + n).tmod n = k.tmod n := by
        rw [Int.tmod_eq_emod_of_nonneg (by omega), Int.add_emod_right, Int.emod_eq_of_lt (by omega) (by omega)]
      exact h3
  rw [he]
  generalize hq : k.tmod n = q at *
  clear he
  by_cases hc : q < 0
  · rw [if_pos hc]
    go_enter Tryd.func21, Tryd.ntmps21
    go_wp2
    go_ret
    exact ⟨rfl, rfl⟩
  · rw [if_neg hc]
    go_enter Tryd.func21, Tryd.ntmps21
    go_wp2
    go_ret
    exact ⟨rfl, rfl⟩
end Go.Proofs.YtflkdkghpoccgaaDoor
