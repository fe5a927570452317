/- What the document fixes of cuts. -/
import Derived.Test.YtodinfadheabpaaCutV
import Derived.Deep.DrawnRows
namespace Go.Proofs.Ytodinfadheabpaa
open Go.RowKit Go.Shelf
set_option linter.unusedVariables false
set_option maxHeartbeats 4000000
set_option maxRecDepth 100000
theorem Mt.mod {S : Nat → Prop} {w w' : World} (d : Mod S w w') {b : Nat} {g : Option Nat} {lev most : Int} {zs : List Int} (h : Mt w b g lev most zs) (hb : ¬ S b) (hs : ∀ k, g = some k → ¬ S k) : Mt w' b g lev most zs := by
  obtain ⟨A, cap, h0, h1, h2⟩ := h.row
  exact ⟨⟨A, cap, h0, h1.mod d hb, own_mod d h2 (fun k e => hs k (h0 ▸ e))⟩, h.ne⟩
theorem Mt.lt {w : World} {b : Nat} {g : Option Nat} {lev most : Int} {zs : List Int} (h : Mt w b g lev most zs) : b < w.heap.size ∧ ∀ k, g = some k → k < w.heap.size := by
  obtain ⟨A, cap, h0, h1, h2⟩ := h.row
  exact ⟨h1.lt, fun k e => (h2.lt k (h0.trans e)).2⟩
theorem sorted19 : sortZ [1, 9] = [1, 9] := (sortZ_unique (by simp) (List.Perm.refl _)).symm
theorem awakeW (w : World) : Calls Try.prog 6 #[] w fun e w' => e = .returned (.bool true) ∧ Mod (fun _ => False) w w' := by
  have hcz : cutsZ 2 (clampZ 10 0 1073741824) (sortZ [1, 9]) = [9] := by rw [sorted19]; decide
  have h1 : moreZ 10 [] 1 = [1] := by decide
  have h2 : moreZ 10 [1] 9 = [1, 9] := by decide
  have hb19 : ∀ z ∈ [(1 : Int), 9], 0 ≤ z ∧ z ≤ 1073741824 := by decide
  have hP9 : ∀ (b : Nat) (g : Option Nat) (w : World), Mt w b g 2 10 [1, 9] → Calls Try.prog 13 #[.pointer (some ⟨b, 0, none⟩), .int .i64 9, .int .i64 10] w fun e w' => e = .returned (.int .i64 7) ∧ Mod (fun _ => False) w w' := fun b g w m => by
    have := prioW b g 2 10 9 10 [1, 9] w m (by omega) (by omega) (by decide) hb19
    rw [hcz] at this
    exact this
  have hP10 : ∀ (b : Nat) (g : Option Nat) (w : World), Mt w b g 2 10 [1, 9] → Calls Try.prog 13 #[.pointer (some ⟨b, 0, none⟩), .int .i64 10, .int .i64 10] w fun e w' => e = .returned (.int .i64 6) ∧ Mod (fun _ => False) w w' := fun b g w m => by
    have := prioW b g 2 10 10 10 [1, 9] w m (by omega) (by omega) (by decide) hb19
    rw [hcz] at this
    exact this
  have hC : ∀ (b : Nat) (g : Option Nat) (w : World), Mt w b g 2 10 [1, 9] → Calls Try.prog 11 #[.pointer (some ⟨b, 0, none⟩), .int .i64 10] w fun e w' => ∃ v, e = .returned v ∧ Own w' w.heap.size 3 1 encI v [9] ∧ Mod (fun _ => False) w w' := fun b g w m => by
    have := cutsW b g 2 10 10 [1, 9] w m (by omega) (by omega) (by decide) hb19
    rw [hcz] at this
    exact this
  have hA1 : ∀ (b : Nat) (g : Option Nat) (w : World), Mt w b g 2 10 [] → Calls Try.prog 8 #[.pointer (some ⟨b, 0, none⟩), .int .i64 1] w fun e w' => e = .returned (.tuple #[]) ∧ ∃ g', Mt w' b g' 2 10 [1] ∧ (∀ k, g' = some k → w.heap.size ≤ k) ∧ Mod (fun k => k = b ∨ g = some k) w w' := fun b g w m => by
    have := addW b g 2 10 1 [] w m (by omega) (by omega) (by decide)
    rw [h1] at this
    exact this
  have hA2 : ∀ (b : Nat) (g : Option Nat) (w : World), Mt w b g 2 10 [1] → Calls Try.prog 8 #[.pointer (some ⟨b, 0, none⟩), .int .i64 9] w fun e w' => e = .returned (.tuple #[]) ∧ ∃ g', Mt w' b g' 2 10 [1, 9] ∧ (∀ k, g' = some k → w.heap.size ≤ k) ∧ Mod (fun k => k = b ∨ g = some k) w w' := fun b g w m => by
    have := addW b g 2 10 9 [1] w m (by omega) (by omega) (by decide)
    rw [h2] at this
    exact this
  clear hcz h1 h2
  have HP9 := Lib.hid hP9
  have HP10 := Lib.hid hP10
  have HC := Lib.hid hC
  have HA1 := Lib.hid hA1
  have HA2 := Lib.hid hA2
  clear hP9 hP10 hC hA1 hA2 hb19
  go_enter Try.func6, Try.ntmps6
  go_wp2_with fail
  refine (cnewW 2 10 _ (by omega) (by omega) (by omega) (by omega)).mono ?_
  rintro e w1 ⟨rfl, t1, m1⟩
  generalize hb : w.heap.size = b at *
  go_wp2_with fail
  refine (cnewNo 9 1 _ (by omega)).mono ?_
  rintro e w1 ⟨rfl, rfl⟩
  go_wp2_with fail
  refine (HA1.out _ _ _ t1).mono ?_
  rintro e w2 ⟨rfl, g2, t2, f2, m2⟩
  have hs1 := m1.size
  have n2 : Mod (fun _ => False) w w2 := m1.trans m2 (fun k hk h => by
    rcases h with h | h
    · omega
    · cases h)
  go_wp2_with fail
  refine (HA2.out _ _ _ t2).mono ?_
  rintro e w3 ⟨rfl, g3, t3, f3, m3⟩
  have n3 : Mod (fun _ => False) w w3 := n2.trans m3 (fun k hk h => by
    rcases h with h | h
    · omega
    · have := f2 k h
      omega)
  clear t1 t2 m1 m2 m3 n2
  go_wp2_with fail
  refine (HC.out _ _ _ t3).mono ?_
  rintro e w4 ⟨v, rfl, hown, m4⟩
  have t4 := t3.mod m4 (fun e => e) (fun _ _ e => e)
  have n4 := n3.trans m4 (fun _ _ h => h)
  obtain ⟨gv, cv, rfl, _⟩ := hown.form1 (by decide)
  have hc0 : w4.cell? ⟨gv, 0, none⟩ = some (.int .i64 9) := by
    obtain ⟨g', off, e', _, h⟩ := hown.has.atI (i := 0) (x := 9) rfl
    injection e' with e'
    injection e' with e1 e2
    subst e1 e2
    exact h
  clear hown t3 n3 m4
  go_wp2_with fail
  refine (HP9.out _ _ _ t4).mono ?_
  rintro e w5 ⟨rfl, m5⟩
  have t5 := t4.mod m5 (fun e => e) (fun _ _ e => e)
  have n5 := n4.trans m5 (fun _ _ h => h)
  go_wp2_with fail
  refine (HP10.out _ _ _ t5).mono ?_
  rintro e w6 ⟨rfl, m6⟩
  have t6 := t5.mod m6 (fun e => e) (fun _ _ e => e)
  have n6 := n5.trans m6 (fun _ _ h => h)
  go_wp2_with fail
  refine (clenW _ _ _ _ _ _ t6).mono ?_
  rintro e w7 ⟨rfl, rfl⟩
  go_wp2_with fail
  go_ret
  exact ⟨rfl, n6⟩
end Go.Proofs.Ytodinfadheabpaa
