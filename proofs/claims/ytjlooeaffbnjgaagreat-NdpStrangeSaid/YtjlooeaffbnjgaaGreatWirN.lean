/- wire.Check of frames that may not be. -/
import Derived.Test.YtjlooeaffbnjgaaGreatWir
namespace Go.Proofs.YtjlooeaffbnjgaaGreat
open Go.RowKit
set_option linter.unusedVariables false
set_option linter.unusedSimpArgs false
set_option maxHeartbeats 4000000
set_option maxRecDepth 100000
theorem wwithinNo (n h : Int) (w : World) (hn : n < 0 ∨ h < n) : Calls Tryz.prog 96 #[.int .i64 n, .int .i64 h] w fun e w' => e = .returned (.bool false) ∧ w = w' := by
  by_cases h0 : n < 0
  · have hx : ¬ 0 ≤ n := by omega
    clear hn
    go_enter Tryz.func96, Tryz.ntmps96
    go_wp2
    go_ret
    exact ⟨rfl, rfl⟩
  · have hx : 0 ≤ n := by omega
    have hy : ¬ n ≤ h := by omega
    clear hn
    go_enter Tryz.func96, Tryz.ntmps96
    go_wp2
    go_ret
    exact ⟨rfl, rfl⟩
theorem wireNoK1 {k s d p m o l t nn : Int} {n : Nat} (A : Option Addr) (c : Nat) (w : World)  (hf : k < 1) :
    Calls Tryz.prog 61 #[.agg #[.int .i64 k, .int .i64 s, .int .i64 d, .int .i64 p, .int .u64 m, .int .i64 o, .int .i64 l, .int .i64 t, .int .i64 nn, .slice A n c]] w fun e w' => e = .returned (.int .i64 1) ∧ Mod NoB w w' := by
  have HM := Lib.hid ((Mod.refl NoB w).alloc (.cells #[.int .i64 k, .int .i64 s, .int .i64 d, .int .i64 p, .int .u64 m, .int .i64 o, .int .i64 l, .int .i64 t, .int .i64 nn, .slice A n c] 65))
  have e1 : (k == 1) = false := by simp; omega
  have q : ¬ 1 ≤ k := by omega
  clear hf
  go_enter Tryz.func61, Tryz.ntmps61
  go_wp2_with fail
  go_ret
  exact ⟨rfl, HM.out⟩
theorem wireNoK2 {k s d p m o l t nn : Int} {n : Nat} (A : Option Addr) (c : Nat) (w : World) (hK1 : 1 ≤ k) (hf : 12 < k) :
    Calls Tryz.prog 61 #[.agg #[.int .i64 k, .int .i64 s, .int .i64 d, .int .i64 p, .int .u64 m, .int .i64 o, .int .i64 l, .int .i64 t, .int .i64 nn, .slice A n c]] w fun e w' => e = .returned (.int .i64 1) ∧ Mod NoB w w' := by
  have HM := Lib.hid ((Mod.refl NoB w).alloc (.cells #[.int .i64 k, .int .i64 s, .int .i64 d, .int .i64 p, .int .u64 m, .int .i64 o, .int .i64 l, .int .i64 t, .int .i64 nn, .slice A n c] 65))
  have e1 : (k == 1) = false := by simp; omega
  have q : ¬ k ≤ 12 := by omega
  clear hf
  go_enter Tryz.func61, Tryz.ntmps61
  go_wp2_with fail
  go_ret
  exact ⟨rfl, HM.out⟩
theorem wireNoS {k s d p m o l t nn : Int} {n : Nat} (A : Option Addr) (c : Nat) (w : World) (hK1 : 1 ≤ k) (hK2 : k ≤ 12) (hf : s < 0 ∨ 7 < s) :
    Calls Tryz.prog 61 #[.agg #[.int .i64 k, .int .i64 s, .int .i64 d, .int .i64 p, .int .u64 m, .int .i64 o, .int .i64 l, .int .i64 t, .int .i64 nn, .slice A n c]] w fun e w' => e = .returned (.int .i64 1) ∧ Mod NoB w w' := by
  have HM := Lib.hid ((Mod.refl NoB w).alloc (.cells #[.int .i64 k, .int .i64 s, .int .i64 d, .int .i64 p, .int .u64 m, .int .i64 o, .int .i64 l, .int .i64 t, .int .i64 nn, .slice A n c] 65))
  have HS := Lib.hid (fun W => wwithinNo s 7 W hf)
  clear hf
  by_cases hk1 : k = 1
  · subst hk1
    go_enter Tryz.func61, Tryz.ntmps61
    go_wp2_with fail
    refine (HS.out _).mono ?_; rintro e w2 ⟨rfl, rfl⟩
    go_wp2_with fail
    go_ret
    exact ⟨rfl, HM.out⟩
  · have e1 : (k == 1) = false := by simp [hk1]
    clear hk1
    go_enter Tryz.func61, Tryz.ntmps61
    go_wp2_with fail
    refine (HS.out _).mono ?_; rintro e w2 ⟨rfl, rfl⟩
    go_wp2_with fail
    go_ret
    exact ⟨rfl, HM.out⟩
theorem wireNoD {k s d p m o l t nn : Int} {n : Nat} (A : Option Addr) (c : Nat) (w : World) (hK1 : 1 ≤ k) (hK2 : k ≤ 12) (hS : 0 ≤ s ∧ s ≤ 7) (hf : d < 0 ∨ 7 < d) :
    Calls Tryz.prog 61 #[.agg #[.int .i64 k, .int .i64 s, .int .i64 d, .int .i64 p, .int .u64 m, .int .i64 o, .int .i64 l, .int .i64 t, .int .i64 nn, .slice A n c]] w fun e w' => e = .returned (.int .i64 1) ∧ Mod NoB w w' := by
  have HM := Lib.hid ((Mod.refl NoB w).alloc (.cells #[.int .i64 k, .int .i64 s, .int .i64 d, .int .i64 p, .int .u64 m, .int .i64 o, .int .i64 l, .int .i64 t, .int .i64 nn, .slice A n c] 65))
  obtain ⟨hSa, hSb⟩ := hS
  have HS := Lib.hid (fun W => wwithinYes s 7 W hSa hSb)
  have HD := Lib.hid (fun W => wwithinNo d 7 W hf)
  clear hf
  by_cases hk1 : k = 1
  · subst hk1
    go_enter Tryz.func61, Tryz.ntmps61
    go_wp2_with fail
    refine (HS.out _).mono ?_; rintro e w2 ⟨rfl, rfl⟩
    go_wp2_with fail
    refine (HD.out _).mono ?_; rintro e w2 ⟨rfl, rfl⟩
    go_wp2_with fail
    go_ret
    exact ⟨rfl, HM.out⟩
  · have e1 : (k == 1) = false := by simp [hk1]
    clear hk1
    go_enter Tryz.func61, Tryz.ntmps61
    go_wp2_with fail
    refine (HS.out _).mono ?_; rintro e w2 ⟨rfl, rfl⟩
    go_wp2_with fail
    refine (HD.out _).mono ?_; rintro e w2 ⟨rfl, rfl⟩
    go_wp2_with fail
    go_ret
    exact ⟨rfl, HM.out⟩
theorem wireNoP {k s d p m o l t nn : Int} {n : Nat} (A : Option Addr) (c : Nat) (w : World) (hK1 : 1 ≤ k) (hK2 : k ≤ 12) (hS : 0 ≤ s ∧ s ≤ 7) (hD : 0 ≤ d ∧ d ≤ 7) (hf : p < 0 ∨ 7 < p) :
    Calls Tryz.prog 61 #[.agg #[.int .i64 k, .int .i64 s, .int .i64 d, .int .i64 p, .int .u64 m, .int .i64 o, .int .i64 l, .int .i64 t, .int .i64 nn, .slice A n c]] w fun e w' => e = .returned (.int .i64 1) ∧ Mod NoB w w' := by
  have HM := Lib.hid ((Mod.refl NoB w).alloc (.cells #[.int .i64 k, .int .i64 s, .int .i64 d, .int .i64 p, .int .u64 m, .int .i64 o, .int .i64 l, .int .i64 t, .int .i64 nn, .slice A n c] 65))
  obtain ⟨hSa, hSb⟩ := hS
  obtain ⟨hDa, hDb⟩ := hD
  have HS := Lib.hid (fun W => wwithinYes s 7 W hSa hSb)
  have HD := Lib.hid (fun W => wwithinYes d 7 W hDa hDb)
  have HP := Lib.hid (fun W => wwithinNo p 7 W hf)
  clear hf
  by_cases hk1 : k = 1
  · subst hk1
    go_enter Tryz.func61, Tryz.ntmps61
    go_wp2_with fail
    refine (HS.out _).mono ?_; rintro e w2 ⟨rfl, rfl⟩
    go_wp2_with fail
    refine (HD.out _).mono ?_; rintro e w2 ⟨rfl, rfl⟩
    go_wp2_with fail
    refine (HP.out _).mono ?_; rintro e w2 ⟨rfl, rfl⟩
    go_wp2_with fail
    go_ret
    exact ⟨rfl, HM.out⟩
  · have e1 : (k == 1) = false := by simp [hk1]
    clear hk1
    go_enter Tryz.func61, Tryz.ntmps61
    go_wp2_with fail
    refine (HS.out _).mono ?_; rintro e w2 ⟨rfl, rfl⟩
    go_wp2_with fail
    refine (HD.out _).mono ?_; rintro e w2 ⟨rfl, rfl⟩
    go_wp2_with fail
    refine (HP.out _).mono ?_; rintro e w2 ⟨rfl, rfl⟩
    go_wp2_with fail
    go_ret
    exact ⟨rfl, HM.out⟩
theorem wireNoM {k s d p m o l t nn : Int} {n : Nat} (A : Option Addr) (c : Nat) (w : World) (hK1 : 1 ≤ k) (hK2 : k ≤ 12) (hS : 0 ≤ s ∧ s ≤ 7) (hD : 0 ≤ d ∧ d ≤ 7) (hP : 0 ≤ p ∧ p ≤ 7) (hf : 1152921504606846976 < m) :
    Calls Tryz.prog 61 #[.agg #[.int .i64 k, .int .i64 s, .int .i64 d, .int .i64 p, .int .u64 m, .int .i64 o, .int .i64 l, .int .i64 t, .int .i64 nn, .slice A n c]] w fun e w' => e = .returned (.int .i64 1) ∧ Mod NoB w w' := by
  have HM := Lib.hid ((Mod.refl NoB w).alloc (.cells #[.int .i64 k, .int .i64 s, .int .i64 d, .int .i64 p, .int .u64 m, .int .i64 o, .int .i64 l, .int .i64 t, .int .i64 nn, .slice A n c] 65))
  obtain ⟨hSa, hSb⟩ := hS
  obtain ⟨hDa, hDb⟩ := hD
  obtain ⟨hPa, hPb⟩ := hP
  have HS := Lib.hid (fun W => wwithinYes s 7 W hSa hSb)
  have HD := Lib.hid (fun W => wwithinYes d 7 W hDa hDb)
  have HP := Lib.hid (fun W => wwithinYes p 7 W hPa hPb)
  have q : ¬ m ≤ 1152921504606846976 := by omega
  clear hf
  by_cases hk1 : k = 1
  · subst hk1
    go_enter Tryz.func61, Tryz.ntmps61
    go_wp2_with fail
    refine (HS.out _).mono ?_; rintro e w2 ⟨rfl, rfl⟩
    go_wp2_with fail
    refine (HD.out _).mono ?_; rintro e w2 ⟨rfl, rfl⟩
    go_wp2_with fail
    refine (HP.out _).mono ?_; rintro e w2 ⟨rfl, rfl⟩
    go_wp2_with fail
    go_ret
    exact ⟨rfl, HM.out⟩
  · have e1 : (k == 1) = false := by simp [hk1]
    clear hk1
    go_enter Tryz.func61, Tryz.ntmps61
    go_wp2_with fail
    refine (HS.out _).mono ?_; rintro e w2 ⟨rfl, rfl⟩
    go_wp2_with fail
    refine (HD.out _).mono ?_; rintro e w2 ⟨rfl, rfl⟩
    go_wp2_with fail
    refine (HP.out _).mono ?_; rintro e w2 ⟨rfl, rfl⟩
    go_wp2_with fail
    go_ret
    exact ⟨rfl, HM.out⟩
theorem wireNoO {k s d p m o l t nn : Int} {n : Nat} (A : Option Addr) (c : Nat) (w : World) (hK1 : 1 ≤ k) (hK2 : k ≤ 12) (hS : 0 ≤ s ∧ s ≤ 7) (hD : 0 ≤ d ∧ d ≤ 7) (hP : 0 ≤ p ∧ p ≤ 7) (hM : m ≤ 1152921504606846976) (hf : o < 0 ∨ 1073741824 < o) :
    Calls Tryz.prog 61 #[.agg #[.int .i64 k, .int .i64 s, .int .i64 d, .int .i64 p, .int .u64 m, .int .i64 o, .int .i64 l, .int .i64 t, .int .i64 nn, .slice A n c]] w fun e w' => e = .returned (.int .i64 1) ∧ Mod NoB w w' := by
  have HM := Lib.hid ((Mod.refl NoB w).alloc (.cells #[.int .i64 k, .int .i64 s, .int .i64 d, .int .i64 p, .int .u64 m, .int .i64 o, .int .i64 l, .int .i64 t, .int .i64 nn, .slice A n c] 65))
  obtain ⟨hSa, hSb⟩ := hS
  obtain ⟨hDa, hDb⟩ := hD
  obtain ⟨hPa, hPb⟩ := hP
  have HS := Lib.hid (fun W => wwithinYes s 7 W hSa hSb)
  have HD := Lib.hid (fun W => wwithinYes d 7 W hDa hDb)
  have HP := Lib.hid (fun W => wwithinYes p 7 W hPa hPb)
  have HO := Lib.hid (fun W => wwithinNo o 1073741824 W hf)
  clear hf
  by_cases hk1 : k = 1
  · subst hk1
    go_enter Tryz.func61, Tryz.ntmps61
    go_wp2_with fail
    refine (HS.out _).mono ?_; rintro e w2 ⟨rfl, rfl⟩
    go_wp2_with fail
    refine (HD.out _).mono ?_; rintro e w2 ⟨rfl, rfl⟩
    go_wp2_with fail
    refine (HP.out _).mono ?_; rintro e w2 ⟨rfl, rfl⟩
    go_wp2_with fail
    refine (HO.out _).mono ?_; rintro e w2 ⟨rfl, rfl⟩
    go_wp2_with fail
    go_ret
    exact ⟨rfl, HM.out⟩
  · have e1 : (k == 1) = false := by simp [hk1]
    clear hk1
    go_enter Tryz.func61, Tryz.ntmps61
    go_wp2_with fail
    refine (HS.out _).mono ?_; rintro e w2 ⟨rfl, rfl⟩
    go_wp2_with fail
    refine (HD.out _).mono ?_; rintro e w2 ⟨rfl, rfl⟩
    go_wp2_with fail
    refine (HP.out _).mono ?_; rintro e w2 ⟨rfl, rfl⟩
    go_wp2_with fail
    refine (HO.out _).mono ?_; rintro e w2 ⟨rfl, rfl⟩
    go_wp2_with fail
    go_ret
    exact ⟨rfl, HM.out⟩
theorem wireNoT {k s d p m o l t nn : Int} {n : Nat} (A : Option Addr) (c : Nat) (w : World) (hK1 : 1 ≤ k) (hK2 : k ≤ 12) (hS : 0 ≤ s ∧ s ≤ 7) (hD : 0 ≤ d ∧ d ≤ 7) (hP : 0 ≤ p ∧ p ≤ 7) (hM : m ≤ 1152921504606846976) (hO : 0 ≤ o ∧ o ≤ 1073741824) (hf : t < 0 ∨ 1073741824 < t) :
    Calls Tryz.prog 61 #[.agg #[.int .i64 k, .int .i64 s, .int .i64 d, .int .i64 p, .int .u64 m, .int .i64 o, .int .i64 l, .int .i64 t, .int .i64 nn, .slice A n c]] w fun e w' => e = .returned (.int .i64 1) ∧ Mod NoB w w' := by
  have HM := Lib.hid ((Mod.refl NoB w).alloc (.cells #[.int .i64 k, .int .i64 s, .int .i64 d, .int .i64 p, .int .u64 m, .int .i64 o, .int .i64 l, .int .i64 t, .int .i64 nn, .slice A n c] 65))
  obtain ⟨hSa, hSb⟩ := hS
  obtain ⟨hDa, hDb⟩ := hD
  obtain ⟨hPa, hPb⟩ := hP
  obtain ⟨hOa, hOb⟩ := hO
  have HS := Lib.hid (fun W => wwithinYes s 7 W hSa hSb)
  have HD := Lib.hid (fun W => wwithinYes d 7 W hDa hDb)
  have HP := Lib.hid (fun W => wwithinYes p 7 W hPa hPb)
  have HO := Lib.hid (fun W => wwithinYes o 1073741824 W hOa hOb)
  have HT := Lib.hid (fun W => wwithinNo t 1073741824 W hf)
  clear hf
  by_cases hk1 : k = 1
  · subst hk1
    go_enter Tryz.func61, Tryz.ntmps61
    go_wp2_with fail
    refine (HS.out _).mono ?_; rintro e w2 ⟨rfl, rfl⟩
    go_wp2_with fail
    refine (HD.out _).mono ?_; rintro e w2 ⟨rfl, rfl⟩
    go_wp2_with fail
    refine (HP.out _).mono ?_; rintro e w2 ⟨rfl, rfl⟩
    go_wp2_with fail
    refine (HO.out _).mono ?_; rintro e w2 ⟨rfl, rfl⟩
    go_wp2_with fail
    refine (HT.out _).mono ?_; rintro e w2 ⟨rfl, rfl⟩
    go_wp2_with fail
    go_ret
    exact ⟨rfl, HM.out⟩
  · have e1 : (k == 1) = false := by simp [hk1]
    clear hk1
    go_enter Tryz.func61, Tryz.ntmps61
    go_wp2_with fail
    refine (HS.out _).mono ?_; rintro e w2 ⟨rfl, rfl⟩
    go_wp2_with fail
    refine (HD.out _).mono ?_; rintro e w2 ⟨rfl, rfl⟩
    go_wp2_with fail
    refine (HP.out _).mono ?_; rintro e w2 ⟨rfl, rfl⟩
    go_wp2_with fail
    refine (HO.out _).mono ?_; rintro e w2 ⟨rfl, rfl⟩
    go_wp2_with fail
    refine (HT.out _).mono ?_; rintro e w2 ⟨rfl, rfl⟩
    go_wp2_with fail
    go_ret
    exact ⟨rfl, HM.out⟩
theorem wireNoL {k s d p m o l t nn : Int} {n : Nat} (A : Option Addr) (c : Nat) (w : World) (hK1 : 1 ≤ k) (hK2 : k ≤ 12) (hS : 0 ≤ s ∧ s ≤ 7) (hD : 0 ≤ d ∧ d ≤ 7) (hP : 0 ≤ p ∧ p ≤ 7) (hM : m ≤ 1152921504606846976) (hO : 0 ≤ o ∧ o ≤ 1073741824) (hT : 0 ≤ t ∧ t ≤ 1073741824) (hf : l < 0 ∨ 1500 < l) :
    Calls Tryz.prog 61 #[.agg #[.int .i64 k, .int .i64 s, .int .i64 d, .int .i64 p, .int .u64 m, .int .i64 o, .int .i64 l, .int .i64 t, .int .i64 nn, .slice A n c]] w fun e w' => e = .returned (.int .i64 1) ∧ Mod NoB w w' := by
  have HM := Lib.hid ((Mod.refl NoB w).alloc (.cells #[.int .i64 k, .int .i64 s, .int .i64 d, .int .i64 p, .int .u64 m, .int .i64 o, .int .i64 l, .int .i64 t, .int .i64 nn, .slice A n c] 65))
  obtain ⟨hSa, hSb⟩ := hS
  obtain ⟨hDa, hDb⟩ := hD
  obtain ⟨hPa, hPb⟩ := hP
  obtain ⟨hOa, hOb⟩ := hO
  obtain ⟨hTa, hTb⟩ := hT
  have HS := Lib.hid (fun W => wwithinYes s 7 W hSa hSb)
  have HD := Lib.hid (fun W => wwithinYes d 7 W hDa hDb)
  have HP := Lib.hid (fun W => wwithinYes p 7 W hPa hPb)
  have HO := Lib.hid (fun W => wwithinYes o 1073741824 W hOa hOb)
  have HT := Lib.hid (fun W => wwithinYes t 1073741824 W hTa hTb)
  have HL := Lib.hid (fun W => wwithinNo l 1500 W hf)
  clear hf
  by_cases hk1 : k = 1
  · subst hk1
    go_enter Tryz.func61, Tryz.ntmps61
    go_wp2_with fail
    refine (HS.out _).mono ?_; rintro e w2 ⟨rfl, rfl⟩
    go_wp2_with fail
    refine (HD.out _).mono ?_; rintro e w2 ⟨rfl, rfl⟩
    go_wp2_with fail
    refine (HP.out _).mono ?_; rintro e w2 ⟨rfl, rfl⟩
    go_wp2_with fail
    refine (HO.out _).mono ?_; rintro e w2 ⟨rfl, rfl⟩
    go_wp2_with fail
    refine (HT.out _).mono ?_; rintro e w2 ⟨rfl, rfl⟩
    go_wp2_with fail
    refine (HL.out _).mono ?_; rintro e w2 ⟨rfl, rfl⟩
    go_wp2_with fail
    go_ret
    exact ⟨rfl, HM.out⟩
  · have e1 : (k == 1) = false := by simp [hk1]
    clear hk1
    go_enter Tryz.func61, Tryz.ntmps61
    go_wp2_with fail
    refine (HS.out _).mono ?_; rintro e w2 ⟨rfl, rfl⟩
    go_wp2_with fail
    refine (HD.out _).mono ?_; rintro e w2 ⟨rfl, rfl⟩
    go_wp2_with fail
    refine (HP.out _).mono ?_; rintro e w2 ⟨rfl, rfl⟩
    go_wp2_with fail
    refine (HO.out _).mono ?_; rintro e w2 ⟨rfl, rfl⟩
    go_wp2_with fail
    refine (HT.out _).mono ?_; rintro e w2 ⟨rfl, rfl⟩
    go_wp2_with fail
    refine (HL.out _).mono ?_; rintro e w2 ⟨rfl, rfl⟩
    go_wp2_with fail
    go_ret
    exact ⟨rfl, HM.out⟩
theorem wireNoN {k s d p m o l t nn : Int} {n : Nat} (A : Option Addr) (c : Nat) (w : World) (hK1 : 1 ≤ k) (hK2 : k ≤ 12) (hS : 0 ≤ s ∧ s ≤ 7) (hD : 0 ≤ d ∧ d ≤ 7) (hP : 0 ≤ p ∧ p ≤ 7) (hM : m ≤ 1152921504606846976) (hO : 0 ≤ o ∧ o ≤ 1073741824) (hT : 0 ≤ t ∧ t ≤ 1073741824) (hL : 0 ≤ l ∧ l ≤ 1500) (hf : nn < 0 ∨ 1073741824 < nn) :
    Calls Tryz.prog 61 #[.agg #[.int .i64 k, .int .i64 s, .int .i64 d, .int .i64 p, .int .u64 m, .int .i64 o, .int .i64 l, .int .i64 t, .int .i64 nn, .slice A n c]] w fun e w' => e = .returned (.int .i64 1) ∧ Mod NoB w w' := by
  have HM := Lib.hid ((Mod.refl NoB w).alloc (.cells #[.int .i64 k, .int .i64 s, .int .i64 d, .int .i64 p, .int .u64 m, .int .i64 o, .int .i64 l, .int .i64 t, .int .i64 nn, .slice A n c] 65))
  obtain ⟨hSa, hSb⟩ := hS
  obtain ⟨hDa, hDb⟩ := hD
  obtain ⟨hPa, hPb⟩ := hP
  obtain ⟨hOa, hOb⟩ := hO
  obtain ⟨hTa, hTb⟩ := hT
  obtain ⟨hLa, hLb⟩ := hL
  have HS := Lib.hid (fun W => wwithinYes s 7 W hSa hSb)
  have HD := Lib.hid (fun W => wwithinYes d 7 W hDa hDb)
  have HP := Lib.hid (fun W => wwithinYes p 7 W hPa hPb)
  have HO := Lib.hid (fun W => wwithinYes o 1073741824 W hOa hOb)
  have HT := Lib.hid (fun W => wwithinYes t 1073741824 W hTa hTb)
  have HL := Lib.hid (fun W => wwithinYes l 1500 W hLa hLb)
  have HN := Lib.hid (fun W => wwithinNo nn 1073741824 W hf)
  clear hf
  by_cases hk1 : k = 1
  · subst hk1
    go_enter Tryz.func61, Tryz.ntmps61
    go_wp2_with fail
    refine (HS.out _).mono ?_; rintro e w2 ⟨rfl, rfl⟩
    go_wp2_with fail
    refine (HD.out _).mono ?_; rintro e w2 ⟨rfl, rfl⟩
    go_wp2_with fail
    refine (HP.out _).mono ?_; rintro e w2 ⟨rfl, rfl⟩
    go_wp2_with fail
    refine (HO.out _).mono ?_; rintro e w2 ⟨rfl, rfl⟩
    go_wp2_with fail
    refine (HT.out _).mono ?_; rintro e w2 ⟨rfl, rfl⟩
    go_wp2_with fail
    refine (HL.out _).mono ?_; rintro e w2 ⟨rfl, rfl⟩
    go_wp2_with fail
    refine (HN.out _).mono ?_; rintro e w2 ⟨rfl, rfl⟩
    go_wp2_with fail
    go_ret
    exact ⟨rfl, HM.out⟩
  · have e1 : (k == 1) = false := by simp [hk1]
    clear hk1
    go_enter Tryz.func61, Tryz.ntmps61
    go_wp2_with fail
    refine (HS.out _).mono ?_; rintro e w2 ⟨rfl, rfl⟩
    go_wp2_with fail
    refine (HD.out _).mono ?_; rintro e w2 ⟨rfl, rfl⟩
    go_wp2_with fail
    refine (HP.out _).mono ?_; rintro e w2 ⟨rfl, rfl⟩
    go_wp2_with fail
    refine (HO.out _).mono ?_; rintro e w2 ⟨rfl, rfl⟩
    go_wp2_with fail
    refine (HT.out _).mono ?_; rintro e w2 ⟨rfl, rfl⟩
    go_wp2_with fail
    refine (HL.out _).mono ?_; rintro e w2 ⟨rfl, rfl⟩
    go_wp2_with fail
    refine (HN.out _).mono ?_; rintro e w2 ⟨rfl, rfl⟩
    go_wp2_with fail
    go_ret
    exact ⟨rfl, HM.out⟩
theorem wireNoF {k s d p m o l t nn : Int} {n : Nat} (A : Option Addr) (c : Nat) (w : World) (hK1 : 1 ≤ k) (hK2 : k ≤ 12) (hS : 0 ≤ s ∧ s ≤ 7) (hD : 0 ≤ d ∧ d ≤ 7) (hP : 0 ≤ p ∧ p ≤ 7) (hM : m ≤ 1152921504606846976) (hO : 0 ≤ o ∧ o ≤ 1073741824) (hT : 0 ≤ t ∧ t ≤ 1073741824) (hL : 0 ≤ l ∧ l ≤ 1500) (hN : 0 ≤ nn ∧ nn ≤ 1073741824) (hf : (k = 1 ∨ k = 7) ∧ t < o + l) :
    Calls Tryz.prog 61 #[.agg #[.int .i64 k, .int .i64 s, .int .i64 d, .int .i64 p, .int .u64 m, .int .i64 o, .int .i64 l, .int .i64 t, .int .i64 nn, .slice A n c]] w fun e w' => e = .returned (.int .i64 1) ∧ Mod NoB w w' := by
  have HM := Lib.hid ((Mod.refl NoB w).alloc (.cells #[.int .i64 k, .int .i64 s, .int .i64 d, .int .i64 p, .int .u64 m, .int .i64 o, .int .i64 l, .int .i64 t, .int .i64 nn, .slice A n c] 65))
  obtain ⟨hSa, hSb⟩ := hS
  obtain ⟨hDa, hDb⟩ := hD
  obtain ⟨hPa, hPb⟩ := hP
  obtain ⟨hOa, hOb⟩ := hO
  obtain ⟨hTa, hTb⟩ := hT
  obtain ⟨hLa, hLb⟩ := hL
  obtain ⟨hNa, hNb⟩ := hN
  have hw : IntKind.i64.wrap (o + l) = o + l := by rw [IntKind.wrap_i64]; omega
  have q : ¬ o + l ≤ t := by omega
  have HS := Lib.hid (fun W => wwithinYes s 7 W hSa hSb)
  have HD := Lib.hid (fun W => wwithinYes d 7 W hDa hDb)
  have HP := Lib.hid (fun W => wwithinYes p 7 W hPa hPb)
  have HO := Lib.hid (fun W => wwithinYes o 1073741824 W hOa hOb)
  have HT := Lib.hid (fun W => wwithinYes t 1073741824 W hTa hTb)
  have HL := Lib.hid (fun W => wwithinYes l 1500 W hLa hLb)
  have HN := Lib.hid (fun W => wwithinYes nn 1073741824 W hNa hNb)
  rcases hf with ⟨rfl | rfl, hf⟩
  · clear hf
    go_enter Tryz.func61, Tryz.ntmps61
    go_wp2_with fail
    refine (HS.out _).mono ?_; rintro e w2 ⟨rfl, rfl⟩
    go_wp2_with fail
    refine (HD.out _).mono ?_; rintro e w2 ⟨rfl, rfl⟩
    go_wp2_with fail
    refine (HP.out _).mono ?_; rintro e w2 ⟨rfl, rfl⟩
    go_wp2_with fail
    refine (HO.out _).mono ?_; rintro e w2 ⟨rfl, rfl⟩
    go_wp2_with fail
    refine (HT.out _).mono ?_; rintro e w2 ⟨rfl, rfl⟩
    go_wp2_with fail
    refine (HL.out _).mono ?_; rintro e w2 ⟨rfl, rfl⟩
    go_wp2_with fail
    refine (HN.out _).mono ?_; rintro e w2 ⟨rfl, rfl⟩
    go_wp2_with fail
    go_ret
    exact ⟨rfl, HM.out⟩
  · clear hf
    go_enter Tryz.func61, Tryz.ntmps61
    go_wp2_with fail
    refine (HS.out _).mono ?_; rintro e w2 ⟨rfl, rfl⟩
    go_wp2_with fail
    refine (HD.out _).mono ?_; rintro e w2 ⟨rfl, rfl⟩
    go_wp2_with fail
    refine (HP.out _).mono ?_; rintro e w2 ⟨rfl, rfl⟩
    go_wp2_with fail
    refine (HO.out _).mono ?_; rintro e w2 ⟨rfl, rfl⟩
    go_wp2_with fail
    refine (HT.out _).mono ?_; rintro e w2 ⟨rfl, rfl⟩
    go_wp2_with fail
    refine (HL.out _).mono ?_; rintro e w2 ⟨rfl, rfl⟩
    go_wp2_with fail
    refine (HN.out _).mono ?_; rintro e w2 ⟨rfl, rfl⟩
    go_wp2_with fail
    go_ret
    exact ⟨rfl, HM.out⟩
theorem wireNoY {k s d p m o l t nn : Int} {n : Nat} (A : Option Addr) (c : Nat) (w : World) (hK1 : 1 ≤ k) (hK2 : k ≤ 12) (hS : 0 ≤ s ∧ s ≤ 7) (hD : 0 ≤ d ∧ d ≤ 7) (hP : 0 ≤ p ∧ p ≤ 7) (hM : m ≤ 1152921504606846976) (hO : 0 ≤ o ∧ o ≤ 1073741824) (hT : 0 ≤ t ∧ t ≤ 1073741824) (hL : 0 ≤ l ∧ l ≤ 1500) (hN : 0 ≤ nn ∧ nn ≤ 1073741824) (hF : (k = 1 ∨ k = 7 → o + l ≤ t)) (hf : ¬ (n : Int) = if k = 1 then l else 0) :
    Calls Tryz.prog 61 #[.agg #[.int .i64 k, .int .i64 s, .int .i64 d, .int .i64 p, .int .u64 m, .int .i64 o, .int .i64 l, .int .i64 t, .int .i64 nn, .slice A n c]] w fun e w' => e = .returned (.int .i64 1) ∧ Mod NoB w w' := by
  have HM := Lib.hid ((Mod.refl NoB w).alloc (.cells #[.int .i64 k, .int .i64 s, .int .i64 d, .int .i64 p, .int .u64 m, .int .i64 o, .int .i64 l, .int .i64 t, .int .i64 nn, .slice A n c] 65))
  obtain ⟨hSa, hSb⟩ := hS
  obtain ⟨hDa, hDb⟩ := hD
  obtain ⟨hPa, hPb⟩ := hP
  obtain ⟨hOa, hOb⟩ := hO
  obtain ⟨hTa, hTb⟩ := hT
  obtain ⟨hLa, hLb⟩ := hL
  obtain ⟨hNa, hNb⟩ := hN
  have hw : IntKind.i64.wrap (o + l) = o + l := by rw [IntKind.wrap_i64]; omega
  have HS := Lib.hid (fun W => wwithinYes s 7 W hSa hSb)
  have HD := Lib.hid (fun W => wwithinYes d 7 W hDa hDb)
  have HP := Lib.hid (fun W => wwithinYes p 7 W hPa hPb)
  have HO := Lib.hid (fun W => wwithinYes o 1073741824 W hOa hOb)
  have HT := Lib.hid (fun W => wwithinYes t 1073741824 W hTa hTb)
  have HL := Lib.hid (fun W => wwithinYes l 1500 W hLa hLb)
  have HN := Lib.hid (fun W => wwithinYes nn 1073741824 W hNa hNb)
  by_cases hk1 : k = 1
  · subst hk1
    have q := hF (.inl rfl)
    rw [if_pos rfl] at hf
    have e0 : ((n : Int) != l) = true := by simp [hf]
    clear hf hF
    go_enter Tryz.func61, Tryz.ntmps61
    go_wp2_with fail
    refine (HS.out _).mono ?_; rintro e w2 ⟨rfl, rfl⟩
    go_wp2_with fail
    refine (HD.out _).mono ?_; rintro e w2 ⟨rfl, rfl⟩
    go_wp2_with fail
    refine (HP.out _).mono ?_; rintro e w2 ⟨rfl, rfl⟩
    go_wp2_with fail
    refine (HO.out _).mono ?_; rintro e w2 ⟨rfl, rfl⟩
    go_wp2_with fail
    refine (HT.out _).mono ?_; rintro e w2 ⟨rfl, rfl⟩
    go_wp2_with fail
    refine (HL.out _).mono ?_; rintro e w2 ⟨rfl, rfl⟩
    go_wp2_with fail
    refine (HN.out _).mono ?_; rintro e w2 ⟨rfl, rfl⟩
    go_wp2_with fail
    go_ret
    exact ⟨rfl, HM.out⟩
  · rw [if_neg hk1] at hf
    have e1 : (k == 1) = false := by simp [hk1]
    have e2 : (k != 1) = true := by simp [hk1]
    have e0 : ((n : Int) != 0) = true := by simp; omega
    have e00 : (n != 0) = true := by simp; omega
    have e01 : 0 < n := by omega
    by_cases hk7 : k = 7
    · subst hk7
      have q := hF (.inr rfl)
      clear hf hF e1 e2 hk1
      go_enter Tryz.func61, Tryz.ntmps61
      go_wp2_with fail
      refine (HS.out _).mono ?_; rintro e w2 ⟨rfl, rfl⟩
      go_wp2_with fail
      refine (HD.out _).mono ?_; rintro e w2 ⟨rfl, rfl⟩
      go_wp2_with fail
      refine (HP.out _).mono ?_; rintro e w2 ⟨rfl, rfl⟩
      go_wp2_with fail
      refine (HO.out _).mono ?_; rintro e w2 ⟨rfl, rfl⟩
      go_wp2_with fail
      refine (HT.out _).mono ?_; rintro e w2 ⟨rfl, rfl⟩
      go_wp2_with fail
      refine (HL.out _).mono ?_; rintro e w2 ⟨rfl, rfl⟩
      go_wp2_with fail
      refine (HN.out _).mono ?_; rintro e w2 ⟨rfl, rfl⟩
      go_wp2_with fail
      go_ret
      exact ⟨rfl, HM.out⟩
    · have e7 : (k != 7) = true := by simp [hk7]
      clear hf hF hk1 hk7
      go_enter Tryz.func61, Tryz.ntmps61
      go_wp2_with fail
      refine (HS.out _).mono ?_; rintro e w2 ⟨rfl, rfl⟩
      go_wp2_with fail
      refine (HD.out _).mono ?_; rintro e w2 ⟨rfl, rfl⟩
      go_wp2_with fail
      refine (HP.out _).mono ?_; rintro e w2 ⟨rfl, rfl⟩
      go_wp2_with fail
      refine (HO.out _).mono ?_; rintro e w2 ⟨rfl, rfl⟩
      go_wp2_with fail
      refine (HT.out _).mono ?_; rintro e w2 ⟨rfl, rfl⟩
      go_wp2_with fail
      refine (HL.out _).mono ?_; rintro e w2 ⟨rfl, rfl⟩
      go_wp2_with fail
      refine (HN.out _).mono ?_; rintro e w2 ⟨rfl, rfl⟩
      go_wp2_with fail
      go_ret
      exact ⟨rfl, HM.out⟩
theorem wireCheckNo {k s d p m o l t nn : Int} {n : Nat} (A : Option Addr) (c : Nat) (w : World) (h : ¬ FrmOk k s d p m o l t nn n) :
    Calls Tryz.prog 61 #[.agg #[.int .i64 k, .int .i64 s, .int .i64 d, .int .i64 p, .int .u64 m, .int .i64 o, .int .i64 l, .int .i64 t, .int .i64 nn, .slice A n c]] w fun e w' => e = .returned (.int .i64 1) ∧ Mod NoB w w' := by
  by_cases hK1 : 1 ≤ k
  case neg => exact wireNoK1 A c w  (by omega)
  by_cases hK2 : k ≤ 12
  case neg => exact wireNoK2 A c w hK1 (by omega)
  by_cases hS : 0 ≤ s ∧ s ≤ 7
  case neg => exact wireNoS A c w hK1 hK2 (by omega)
  by_cases hD : 0 ≤ d ∧ d ≤ 7
  case neg => exact wireNoD A c w hK1 hK2 hS (by omega)
  by_cases hP : 0 ≤ p ∧ p ≤ 7
  case neg => exact wireNoP A c w hK1 hK2 hS hD (by omega)
  by_cases hM : m ≤ 1152921504606846976
  case neg => exact wireNoM A c w hK1 hK2 hS hD hP (by omega)
  by_cases hO : 0 ≤ o ∧ o ≤ 1073741824
  case neg => exact wireNoO A c w hK1 hK2 hS hD hP hM (by omega)
  by_cases hT : 0 ≤ t ∧ t ≤ 1073741824
  case neg => exact wireNoT A c w hK1 hK2 hS hD hP hM hO (by omega)
  by_cases hL : 0 ≤ l ∧ l ≤ 1500
  case neg => exact wireNoL A c w hK1 hK2 hS hD hP hM hO hT (by omega)
  by_cases hN : 0 ≤ nn ∧ nn ≤ 1073741824
  case neg => exact wireNoN A c w hK1 hK2 hS hD hP hM hO hT hL (by omega)
  by_cases hF : (k = 1 ∨ k = 7 → o + l ≤ t)
  case neg => exact wireNoF A c w hK1 hK2 hS hD hP hM hO hT hL hN (by omega)
  by_cases hY : ((n : Int) = if k = 1 then l else 0)
  case neg => exact wireNoY A c w hK1 hK2 hS hD hP hM hO hT hL hN hF hY
  exact absurd ⟨hK1, hK2, hS.1, hS.2, hD.1, hD.2, hP.1, hP.2, hM, hO.1, hO.2, hL.1, hL.2, hT.1, hT.2, hN.1, hN.2, hF, hY⟩ h
end Go.Proofs.YtjlooeaffbnjgaaGreat
