/- mizzenref1.Check of frames that may not be. -/
import Derived.Test.YtjlooeaffbnjgaaGreatRefC
namespace Go.Proofs.YtjlooeaffbnjgaaGreat
open Go.RowKit
set_option linter.unusedVariables false
set_option linter.unusedSimpArgs false
set_option maxHeartbeats 4000000
set_option maxRecDepth 100000
theorem refNoK1 {k s d p m o l t nn : Int} {n : Nat} (A : Option Addr) (c : Nat) (w : World)  (hf : k < 1) :
    Calls Tryz.prog 32 #[.agg #[.int .i64 k, .int .i64 s, .int .i64 d, .int .i64 p, .int .u64 m, .int .i64 o, .int .i64 l, .int .i64 t, .int .i64 nn, .slice A n c]] w fun e w' => e = .returned (.int .i64 1) ∧ Mod NoB w w' := by
  have HM := Lib.hid ((Mod.refl NoB w).alloc (.cells #[.int .i64 k, .int .i64 s, .int .i64 d, .int .i64 p, .int .u64 m, .int .i64 o, .int .i64 l, .int .i64 t, .int .i64 nn, .slice A n c] 65))
  go_enter Tryz.func32, Tryz.ntmps32
  go_wp2_with fail
  go_ret
  exact ⟨rfl, HM.out⟩
theorem refNoK2 {k s d p m o l t nn : Int} {n : Nat} (A : Option Addr) (c : Nat) (w : World) (hK1 : 1 ≤ k) (hf : 12 < k) :
    Calls Tryz.prog 32 #[.agg #[.int .i64 k, .int .i64 s, .int .i64 d, .int .i64 p, .int .u64 m, .int .i64 o, .int .i64 l, .int .i64 t, .int .i64 nn, .slice A n c]] w fun e w' => e = .returned (.int .i64 1) ∧ Mod NoB w w' := by
  have HM := Lib.hid ((Mod.refl NoB w).alloc (.cells #[.int .i64 k, .int .i64 s, .int .i64 d, .int .i64 p, .int .u64 m, .int .i64 o, .int .i64 l, .int .i64 t, .int .i64 nn, .slice A n c] 65))
  go_enter Tryz.func32, Tryz.ntmps32
  go_wp2_with fail
  go_ret
  exact ⟨rfl, HM.out⟩
theorem refNoS {k s d p m o l t nn : Int} {n : Nat} (A : Option Addr) (c : Nat) (w : World) (hK1 : 1 ≤ k) (hK2 : k ≤ 12) (hf : s < 0 ∨ 7 < s) :
    Calls Tryz.prog 32 #[.agg #[.int .i64 k, .int .i64 s, .int .i64 d, .int .i64 p, .int .u64 m, .int .i64 o, .int .i64 l, .int .i64 t, .int .i64 nn, .slice A n c]] w fun e w' => e = .returned (.int .i64 1) ∧ Mod NoB w w' := by
  have HM := Lib.hid ((Mod.refl NoB w).alloc (.cells #[.int .i64 k, .int .i64 s, .int .i64 d, .int .i64 p, .int .u64 m, .int .i64 o, .int .i64 l, .int .i64 t, .int .i64 nn, .slice A n c] 65))
  by_cases hx : s < 0
  · clear hf
    go_enter Tryz.func32, Tryz.ntmps32
    go_wp2_with fail
    go_ret
    exact ⟨rfl, HM.out⟩
  · have hy : 7 < s := by omega
    have hz : 0 ≤ s := by omega
    clear hf
    go_enter Tryz.func32, Tryz.ntmps32
    go_wp2_with fail
    go_ret
    exact ⟨rfl, HM.out⟩
theorem refNoD {k s d p m o l t nn : Int} {n : Nat} (A : Option Addr) (c : Nat) (w : World) (hK1 : 1 ≤ k) (hK2 : k ≤ 12) (hS : 0 ≤ s ∧ s ≤ 7) (hf : d < 0 ∨ 7 < d) :
    Calls Tryz.prog 32 #[.agg #[.int .i64 k, .int .i64 s, .int .i64 d, .int .i64 p, .int .u64 m, .int .i64 o, .int .i64 l, .int .i64 t, .int .i64 nn, .slice A n c]] w fun e w' => e = .returned (.int .i64 1) ∧ Mod NoB w w' := by
  have HM := Lib.hid ((Mod.refl NoB w).alloc (.cells #[.int .i64 k, .int .i64 s, .int .i64 d, .int .i64 p, .int .u64 m, .int .i64 o, .int .i64 l, .int .i64 t, .int .i64 nn, .slice A n c] 65))
  obtain ⟨hSa, hSb⟩ := hS
  by_cases hx : d < 0
  · clear hf
    go_enter Tryz.func32, Tryz.ntmps32
    go_wp2_with fail
    go_ret
    exact ⟨rfl, HM.out⟩
  · have hy : 7 < d := by omega
    have hz : 0 ≤ d := by omega
    clear hf
    go_enter Tryz.func32, Tryz.ntmps32
    go_wp2_with fail
    go_ret
    exact ⟨rfl, HM.out⟩
theorem refNoP {k s d p m o l t nn : Int} {n : Nat} (A : Option Addr) (c : Nat) (w : World) (hK1 : 1 ≤ k) (hK2 : k ≤ 12) (hS : 0 ≤ s ∧ s ≤ 7) (hD : 0 ≤ d ∧ d ≤ 7) (hf : p < 0 ∨ 7 < p) :
    Calls Tryz.prog 32 #[.agg #[.int .i64 k, .int .i64 s, .int .i64 d, .int .i64 p, .int .u64 m, .int .i64 o, .int .i64 l, .int .i64 t, .int .i64 nn, .slice A n c]] w fun e w' => e = .returned (.int .i64 1) ∧ Mod NoB w w' := by
  have HM := Lib.hid ((Mod.refl NoB w).alloc (.cells #[.int .i64 k, .int .i64 s, .int .i64 d, .int .i64 p, .int .u64 m, .int .i64 o, .int .i64 l, .int .i64 t, .int .i64 nn, .slice A n c] 65))
  obtain ⟨hSa, hSb⟩ := hS
  obtain ⟨hDa, hDb⟩ := hD
  by_cases hx : p < 0
  · clear hf
    go_enter Tryz.func32, Tryz.ntmps32
    go_wp2_with fail
    go_ret
    exact ⟨rfl, HM.out⟩
  · have hy : 7 < p := by omega
    have hz : 0 ≤ p := by omega
    clear hf
    go_enter Tryz.func32, Tryz.ntmps32
    go_wp2_with fail
    go_ret
    exact ⟨rfl, HM.out⟩
theorem refNoM {k s d p m o l t nn : Int} {n : Nat} (A : Option Addr) (c : Nat) (w : World) (hK1 : 1 ≤ k) (hK2 : k ≤ 12) (hS : 0 ≤ s ∧ s ≤ 7) (hD : 0 ≤ d ∧ d ≤ 7) (hP : 0 ≤ p ∧ p ≤ 7) (hf : 1152921504606846976 < m) :
    Calls Tryz.prog 32 #[.agg #[.int .i64 k, .int .i64 s, .int .i64 d, .int .i64 p, .int .u64 m, .int .i64 o, .int .i64 l, .int .i64 t, .int .i64 nn, .slice A n c]] w fun e w' => e = .returned (.int .i64 1) ∧ Mod NoB w w' := by
  have HM := Lib.hid ((Mod.refl NoB w).alloc (.cells #[.int .i64 k, .int .i64 s, .int .i64 d, .int .i64 p, .int .u64 m, .int .i64 o, .int .i64 l, .int .i64 t, .int .i64 nn, .slice A n c] 65))
  obtain ⟨hSa, hSb⟩ := hS
  obtain ⟨hDa, hDb⟩ := hD
  obtain ⟨hPa, hPb⟩ := hP
  go_enter Tryz.func32, Tryz.ntmps32
  go_wp2_with fail
  go_ret
  exact ⟨rfl, HM.out⟩
theorem refNoO {k s d p m o l t nn : Int} {n : Nat} (A : Option Addr) (c : Nat) (w : World) (hK1 : 1 ≤ k) (hK2 : k ≤ 12) (hS : 0 ≤ s ∧ s ≤ 7) (hD : 0 ≤ d ∧ d ≤ 7) (hP : 0 ≤ p ∧ p ≤ 7) (hM : m ≤ 1152921504606846976) (hf : o < 0 ∨ 1073741824 < o) :
    Calls Tryz.prog 32 #[.agg #[.int .i64 k, .int .i64 s, .int .i64 d, .int .i64 p, .int .u64 m, .int .i64 o, .int .i64 l, .int .i64 t, .int .i64 nn, .slice A n c]] w fun e w' => e = .returned (.int .i64 1) ∧ Mod NoB w w' := by
  have HM := Lib.hid ((Mod.refl NoB w).alloc (.cells #[.int .i64 k, .int .i64 s, .int .i64 d, .int .i64 p, .int .u64 m, .int .i64 o, .int .i64 l, .int .i64 t, .int .i64 nn, .slice A n c] 65))
  obtain ⟨hSa, hSb⟩ := hS
  obtain ⟨hDa, hDb⟩ := hD
  obtain ⟨hPa, hPb⟩ := hP
  by_cases hx : o < 0
  · clear hf
    go_enter Tryz.func32, Tryz.ntmps32
    go_wp2_with fail
    go_ret
    exact ⟨rfl, HM.out⟩
  · have hy : 1073741824 < o := by omega
    have hz : 0 ≤ o := by omega
    clear hf
    go_enter Tryz.func32, Tryz.ntmps32
    go_wp2_with fail
    go_ret
    exact ⟨rfl, HM.out⟩
theorem refNoT {k s d p m o l t nn : Int} {n : Nat} (A : Option Addr) (c : Nat) (w : World) (hK1 : 1 ≤ k) (hK2 : k ≤ 12) (hS : 0 ≤ s ∧ s ≤ 7) (hD : 0 ≤ d ∧ d ≤ 7) (hP : 0 ≤ p ∧ p ≤ 7) (hM : m ≤ 1152921504606846976) (hO : 0 ≤ o ∧ o ≤ 1073741824) (hf : t < 0 ∨ 1073741824 < t) :
    Calls Tryz.prog 32 #[.agg #[.int .i64 k, .int .i64 s, .int .i64 d, .int .i64 p, .int .u64 m, .int .i64 o, .int .i64 l, .int .i64 t, .int .i64 nn, .slice A n c]] w fun e w' => e = .returned (.int .i64 1) ∧ Mod NoB w w' := by
  have HM := Lib.hid ((Mod.refl NoB w).alloc (.cells #[.int .i64 k, .int .i64 s, .int .i64 d, .int .i64 p, .int .u64 m, .int .i64 o, .int .i64 l, .int .i64 t, .int .i64 nn, .slice A n c] 65))
  obtain ⟨hSa, hSb⟩ := hS
  obtain ⟨hDa, hDb⟩ := hD
  obtain ⟨hPa, hPb⟩ := hP
  obtain ⟨hOa, hOb⟩ := hO
  by_cases hx : t < 0
  · clear hf
    go_enter Tryz.func32, Tryz.ntmps32
    go_wp2_with fail
    go_ret
    exact ⟨rfl, HM.out⟩
  · have hy : 1073741824 < t := by omega
    have hz : 0 ≤ t := by omega
    clear hf
    go_enter Tryz.func32, Tryz.ntmps32
    go_wp2_with fail
    go_ret
    exact ⟨rfl, HM.out⟩
theorem refNoL {k s d p m o l t nn : Int} {n : Nat} (A : Option Addr) (c : Nat) (w : World) (hK1 : 1 ≤ k) (hK2 : k ≤ 12) (hS : 0 ≤ s ∧ s ≤ 7) (hD : 0 ≤ d ∧ d ≤ 7) (hP : 0 ≤ p ∧ p ≤ 7) (hM : m ≤ 1152921504606846976) (hO : 0 ≤ o ∧ o ≤ 1073741824) (hT : 0 ≤ t ∧ t ≤ 1073741824) (hf : l < 0 ∨ 1500 < l) :
    Calls Tryz.prog 32 #[.agg #[.int .i64 k, .int .i64 s, .int .i64 d, .int .i64 p, .int .u64 m, .int .i64 o, .int .i64 l, .int .i64 t, .int .i64 nn, .slice A n c]] w fun e w' => e = .returned (.int .i64 1) ∧ Mod NoB w w' := by
  have HM := Lib.hid ((Mod.refl NoB w).alloc (.cells #[.int .i64 k, .int .i64 s, .int .i64 d, .int .i64 p, .int .u64 m, .int .i64 o, .int .i64 l, .int .i64 t, .int .i64 nn, .slice A n c] 65))
  obtain ⟨hSa, hSb⟩ := hS
  obtain ⟨hDa, hDb⟩ := hD
  obtain ⟨hPa, hPb⟩ := hP
  obtain ⟨hOa, hOb⟩ := hO
  obtain ⟨hTa, hTb⟩ := hT
  by_cases hx : l < 0
  · clear hf
    go_enter Tryz.func32, Tryz.ntmps32
    go_wp2_with fail
    go_ret
    exact ⟨rfl, HM.out⟩
  · have hy : 1500 < l := by omega
    have hz : 0 ≤ l := by omega
    clear hf
    go_enter Tryz.func32, Tryz.ntmps32
    go_wp2_with fail
    go_ret
    exact ⟨rfl, HM.out⟩
theorem refNoN {k s d p m o l t nn : Int} {n : Nat} (A : Option Addr) (c : Nat) (w : World) (hK1 : 1 ≤ k) (hK2 : k ≤ 12) (hS : 0 ≤ s ∧ s ≤ 7) (hD : 0 ≤ d ∧ d ≤ 7) (hP : 0 ≤ p ∧ p ≤ 7) (hM : m ≤ 1152921504606846976) (hO : 0 ≤ o ∧ o ≤ 1073741824) (hT : 0 ≤ t ∧ t ≤ 1073741824) (hL : 0 ≤ l ∧ l ≤ 1500) (hf : nn < 0 ∨ 1073741824 < nn) :
    Calls Tryz.prog 32 #[.agg #[.int .i64 k, .int .i64 s, .int .i64 d, .int .i64 p, .int .u64 m, .int .i64 o, .int .i64 l, .int .i64 t, .int .i64 nn, .slice A n c]] w fun e w' => e = .returned (.int .i64 1) ∧ Mod NoB w w' := by
  have HM := Lib.hid ((Mod.refl NoB w).alloc (.cells #[.int .i64 k, .int .i64 s, .int .i64 d, .int .i64 p, .int .u64 m, .int .i64 o, .int .i64 l, .int .i64 t, .int .i64 nn, .slice A n c] 65))
  obtain ⟨hSa, hSb⟩ := hS
  obtain ⟨hDa, hDb⟩ := hD
  obtain ⟨hPa, hPb⟩ := hP
  obtain ⟨hOa, hOb⟩ := hO
  obtain ⟨hTa, hTb⟩ := hT
  obtain ⟨hLa, hLb⟩ := hL
  by_cases hx : nn < 0
  · clear hf
    go_enter Tryz.func32, Tryz.ntmps32
    go_wp2_with fail
    go_ret
    exact ⟨rfl, HM.out⟩
  · have hy : 1073741824 < nn := by omega
    have hz : 0 ≤ nn := by omega
    clear hf
    go_enter Tryz.func32, Tryz.ntmps32
    go_wp2_with fail
    go_ret
    exact ⟨rfl, HM.out⟩
theorem refNoF {k s d p m o l t nn : Int} {n : Nat} (A : Option Addr) (c : Nat) (w : World) (hK1 : 1 ≤ k) (hK2 : k ≤ 12) (hS : 0 ≤ s ∧ s ≤ 7) (hD : 0 ≤ d ∧ d ≤ 7) (hP : 0 ≤ p ∧ p ≤ 7) (hM : m ≤ 1152921504606846976) (hO : 0 ≤ o ∧ o ≤ 1073741824) (hT : 0 ≤ t ∧ t ≤ 1073741824) (hL : 0 ≤ l ∧ l ≤ 1500) (hN : 0 ≤ nn ∧ nn ≤ 1073741824) (hf : (k = 1 ∨ k = 7) ∧ t < o + l) :
    Calls Tryz.prog 32 #[.agg #[.int .i64 k, .int .i64 s, .int .i64 d, .int .i64 p, .int .u64 m, .int .i64 o, .int .i64 l, .int .i64 t, .int .i64 nn, .slice A n c]] w fun e w' => e = .returned (.int .i64 1) ∧ Mod NoB w w' := by
  have HM := Lib.hid ((Mod.refl NoB w).alloc (.cells #[.int .i64 k, .int .i64 s, .int .i64 d, .int .i64 p, .int .u64 m, .int .i64 o, .int .i64 l, .int .i64 t, .int .i64 nn, .slice A n c] 65))
  obtain ⟨hSa, hSb⟩ := hS
  obtain ⟨hDa, hDb⟩ := hD
  obtain ⟨hPa, hPb⟩ := hP
  obtain ⟨hOa, hOb⟩ := hO
  obtain ⟨hTa, hTb⟩ := hT
  obtain ⟨hLa, hLb⟩ := hL
  obtain ⟨hNa, hNb⟩ := hN
  have hw : IntKind.i64.wrap (o + l) = o + l := by rw [IntKind.wrap_i64]; omega
  rcases hf with ⟨rfl | rfl, hf⟩
  · skip
    go_enter Tryz.func32, Tryz.ntmps32
    go_wp2_with fail
    go_ret
    exact ⟨rfl, HM.out⟩
  · skip
    go_enter Tryz.func32, Tryz.ntmps32
    go_wp2_with fail
    go_ret
    exact ⟨rfl, HM.out⟩
theorem refNoY {k s d p m o l t nn : Int} {n : Nat} (A : Option Addr) (c : Nat) (w : World) (hK1 : 1 ≤ k) (hK2 : k ≤ 12) (hS : 0 ≤ s ∧ s ≤ 7) (hD : 0 ≤ d ∧ d ≤ 7) (hP : 0 ≤ p ∧ p ≤ 7) (hM : m ≤ 1152921504606846976) (hO : 0 ≤ o ∧ o ≤ 1073741824) (hT : 0 ≤ t ∧ t ≤ 1073741824) (hL : 0 ≤ l ∧ l ≤ 1500) (hN : 0 ≤ nn ∧ nn ≤ 1073741824) (hF : (k = 1 ∨ k = 7 → o + l ≤ t)) (hf : ¬ (n : Int) = if k = 1 then l else 0) :
    Calls Tryz.prog 32 #[.agg #[.int .i64 k, .int .i64 s, .int .i64 d, .int .i64 p, .int .u64 m, .int .i64 o, .int .i64 l, .int .i64 t, .int .i64 nn, .slice A n c]] w fun e w' => e = .returned (.int .i64 1) ∧ Mod NoB w w' := by
  have HM := Lib.hid ((Mod.refl NoB w).alloc (.cells #[.int .i64 k, .int .i64 s, .int .i64 d, .int .i64 p, .int .u64 m, .int .i64 o, .int .i64 l, .int .i64 t, .int .i64 nn, .slice A n c] 65))
  obtain ⟨hSa, hSb⟩ := hS
  obtain ⟨hDa, hDb⟩ := hD
  obtain ⟨hPa, hPb⟩ := hP
  obtain ⟨hOa, hOb⟩ := hO
  obtain ⟨hTa, hTb⟩ := hT
  obtain ⟨hLa, hLb⟩ := hL
  obtain ⟨hNa, hNb⟩ := hN
  have hw : IntKind.i64.wrap (o + l) = o + l := by rw [IntKind.wrap_i64]; omega
  by_cases hk1 : k = 1
  · subst hk1
    have q := hF (.inl rfl)
    rw [if_pos rfl] at hf
    have e0 : ((n : Int) != l) = true := by simp [hf]
    clear hf hF
    go_enter Tryz.func32, Tryz.ntmps32
    go_wp2_with fail
    go_ret
    exact ⟨rfl, HM.out⟩
  · rw [if_neg hk1] at hf
    have e1 : (k == 1) = false := by simp [hk1]
    have e2 : (k != 1) = true := by simp [hk1]
    have e01 : 0 < n := by omega
    have e02 : (0 : Int) < (n : Int) := by omega
    by_cases hk7 : k = 7
    · subst hk7
      have q := hF (.inr rfl)
      clear hf hF e1 e2 hk1
      go_enter Tryz.func32, Tryz.ntmps32
      go_wp2_with fail
      go_ret
      exact ⟨rfl, HM.out⟩
    · have e7 : (k == 7) = false := by simp [hk7]
      clear hf hF hk1 hk7
      go_enter Tryz.func32, Tryz.ntmps32
      go_wp2_with fail
      go_ret
      exact ⟨rfl, HM.out⟩
theorem refCheckNo {k s d p m o l t nn : Int} {n : Nat} (A : Option Addr) (c : Nat) (w : World) (h : ¬ FrmOk k s d p m o l t nn n) :
    Calls Tryz.prog 32 #[.agg #[.int .i64 k, .int .i64 s, .int .i64 d, .int .i64 p, .int .u64 m, .int .i64 o, .int .i64 l, .int .i64 t, .int .i64 nn, .slice A n c]] w fun e w' => e = .returned (.int .i64 1) ∧ Mod NoB w w' := by
  by_cases hK1 : 1 ≤ k
  case neg => exact refNoK1 A c w  (by omega)
  by_cases hK2 : k ≤ 12
  case neg => exact refNoK2 A c w hK1 (by omega)
  by_cases hS : 0 ≤ s ∧ s ≤ 7
  case neg => exact refNoS A c w hK1 hK2 (by omega)
  by_cases hD : 0 ≤ d ∧ d ≤ 7
  case neg => exact refNoD A c w hK1 hK2 hS (by omega)
  by_cases hP : 0 ≤ p ∧ p ≤ 7
  case neg => exact refNoP A c w hK1 hK2 hS hD (by omega)
  by_cases hM : m ≤ 1152921504606846976
  case neg => exact refNoM A c w hK1 hK2 hS hD hP (by omega)
  by_cases hO : 0 ≤ o ∧ o ≤ 1073741824
  case neg => exact refNoO A c w hK1 hK2 hS hD hP hM (by omega)
  by_cases hT : 0 ≤ t ∧ t ≤ 1073741824
  case neg => exact refNoT A c w hK1 hK2 hS hD hP hM hO (by omega)
  by_cases hL : 0 ≤ l ∧ l ≤ 1500
  case neg => exact refNoL A c w hK1 hK2 hS hD hP hM hO hT (by omega)
  by_cases hN : 0 ≤ nn ∧ nn ≤ 1073741824
  case neg => exact refNoN A c w hK1 hK2 hS hD hP hM hO hT hL (by omega)
  by_cases hF : (k = 1 ∨ k = 7 → o + l ≤ t)
  case neg => exact refNoF A c w hK1 hK2 hS hD hP hM hO hT hL hN (by omega)
  by_cases hY : ((n : Int) = if k = 1 then l else 0)
  case neg => exact refNoY A c w hK1 hK2 hS hD hP hM hO hT hL hN hF hY
  exact absurd ⟨hK1, hK2, hS.1, hS.2, hD.1, hD.2, hP.1, hP.2, hM, hO.1, hO.2, hL.1, hL.2, hT.1, hT.2, hN.1, hN.2, hF, hY⟩ h
end Go.Proofs.YtjlooeaffbnjgaaGreat
