/- wire.Check of frames that may be. -/
import Derived.Test.YtjlooeaffbnjgaaGreatRow2
import Derived.Test.YtjlooeaffbnjgaaGreatReg
import Derived.Test.YtjlooeaffbnjgaaGreatFoot
import Derived.Test.YtjlooeaffbnjgaaGreatRows
import Derived.Laws.Rows
namespace Go.Proofs.YtjlooeaffbnjgaaGreat
open Go.RowKit
set_option linter.unusedVariables false
set_option maxHeartbeats 4000000
set_option maxRecDepth 100000
theorem wwithinYes (n h : Int) (w : World) (h0 : 0 ≤ n) (h1 : n ≤ h) : Calls Tryz.prog 96 #[.int .i64 n, .int .i64 h] w fun e w' => e = .returned (.bool true) ∧ w = w' := by
  go_enter Tryz.func96, Tryz.ntmps96
  go_wp2
  go_ret
  exact ⟨rfl, rfl⟩
/-- What a frame must be. -/
structure FrmOk (k s d p m o l t nn : Int) (n : Nat) : Prop where
  k1 : 1 ≤ k
  k2 : k ≤ 12
  s1 : 0 ≤ s
  s2 : s ≤ 7
  d1 : 0 ≤ d
  d2 : d ≤ 7
  p1 : 0 ≤ p
  p2 : p ≤ 7
  m2 : m ≤ 1152921504606846976
  o1 : 0 ≤ o
  o2 : o ≤ 1073741824
  l1 : 0 ≤ l
  l2 : l ≤ 1500
  t1 : 0 ≤ t
  t2 : t ≤ 1073741824
  n1 : 0 ≤ nn
  n2 : nn ≤ 1073741824
  fit : k = 1 ∨ k = 7 → o + l ≤ t
  dat : (n : Int) = if k = 1 then l else 0
theorem wireCheckOk {k s d p m o l t nn : Int} {n : Nat} (h : FrmOk k s d p m o l t nn n) (A : Option Addr) (c : Nat) (w : World) :
    Calls Tryz.prog 61 #[.agg #[.int .i64 k, .int .i64 s, .int .i64 d, .int .i64 p, .int .u64 m, .int .i64 o, .int .i64 l, .int .i64 t, .int .i64 nn, .slice A n c]] w fun e w' => e = .returned (.int .i64 0) ∧ Mod NoB w w' := by
  obtain ⟨k1, k2, s1, s2, d1, d2, p1, p2, m2, o1, o2, l1, l2, t1, t2, n1, n2, fit, dat⟩ := h
  have HM := Lib.hid ((Mod.refl NoB w).alloc (.cells #[.int .i64 k, .int .i64 s, .int .i64 d, .int .i64 p, .int .u64 m, .int .i64 o, .int .i64 l, .int .i64 t, .int .i64 nn, .slice A n c] 65))
  have hw : IntKind.i64.wrap (o + l) = o + l := by rw [IntKind.wrap_i64]; omega
  have HS := Lib.hid (fun W => wwithinYes s 7 W s1 s2)
  have HD := Lib.hid (fun W => wwithinYes d 7 W d1 d2)
  have HP := Lib.hid (fun W => wwithinYes p 7 W p1 p2)
  have HO := Lib.hid (fun W => wwithinYes o 1073741824 W o1 o2)
  have HT := Lib.hid (fun W => wwithinYes t 1073741824 W t1 t2)
  have HL := Lib.hid (fun W => wwithinYes l 1500 W l1 l2)
  have HN := Lib.hid (fun W => wwithinYes nn 1073741824 W n1 n2)
  by_cases hk1 : k = 1
  · subst hk1
    have hf := fit (.inl rfl)
    rw [if_pos rfl] at dat
    subst dat
    clear fit
    go_enter Tryz.func61, Tryz.ntmps61
    go_wp2_with fail
    refine (HS.out _).mono ?_; rintro e w2 ⟨rfl, rfl⟩
    go_wp2_with fail
    refine (HD.out _).mono ?_; rintro e w2 ⟨rfl, rfl⟩
    go_wp2_with fail
    refine (HP.out _).mono ?_; rintro e w2 ⟨rfl, rfl⟩
    go_wp2_with fail
    refine (HO.out _).mono ?_; rintro e w2 ⟨rfl, rfl⟩
    go_wp2_with fail
    refine (HT.out _).mono ?_; rintro e w2 ⟨rfl, rfl⟩
    go_wp2_with fail
    refine (HL.out _).mono ?_; rintro e w2 ⟨rfl, rfl⟩
    go_wp2_with fail
    refine (HN.out _).mono ?_; rintro e w2 ⟨rfl, rfl⟩
    go_wp2_with fail
    go_ret
    exact ⟨rfl, HM.out⟩
  · rw [if_neg hk1] at dat
    obtain rfl : n = 0 := by omega
    have e1 : (k == 1) = false := by simp [hk1]
    have e2 : (k != 1) = true := by simp [hk1]
    by_cases hk7 : k = 7
    · subst hk7
      have hf := fit (.inr rfl)
      clear fit dat e1 e2
      go_enter Tryz.func61, Tryz.ntmps61
      go_wp2_with fail
      refine (HS.out _).mono ?_; rintro e w2 ⟨rfl, rfl⟩
      go_wp2_with fail
      refine (HD.out _).mono ?_; rintro e w2 ⟨rfl, rfl⟩
      go_wp2_with fail
      refine (HP.out _).mono ?_; rintro e w2 ⟨rfl, rfl⟩
      go_wp2_with fail
      refine (HO.out _).mono ?_; rintro e w2 ⟨rfl, rfl⟩
      go_wp2_with fail
      refine (HT.out _).mono ?_; rintro e w2 ⟨rfl, rfl⟩
      go_wp2_with fail
      refine (HL.out _).mono ?_; rintro e w2 ⟨rfl, rfl⟩
      go_wp2_with fail
      refine (HN.out _).mono ?_; rintro e w2 ⟨rfl, rfl⟩
      go_wp2_with fail
      go_ret
      exact ⟨rfl, HM.out⟩
    · have e7 : (k != 7) = true := by simp [hk7]
      clear fit dat
      go_enter Tryz.func61, Tryz.ntmps61
      go_wp2_with fail
      refine (HS.out _).mono ?_; rintro e w2 ⟨rfl, rfl⟩
      go_wp2_with fail
      refine (HD.out _).mono ?_; rintro e w2 ⟨rfl, rfl⟩
      go_wp2_with fail
      refine (HP.out _).mono ?_; rintro e w2 ⟨rfl, rfl⟩
      go_wp2_with fail
      refine (HO.out _).mono ?_; rintro e w2 ⟨rfl, rfl⟩
      go_wp2_with fail
      refine (HT.out _).mono ?_; rintro e w2 ⟨rfl, rfl⟩
      go_wp2_with fail
      refine (HL.out _).mono ?_; rintro e w2 ⟨rfl, rfl⟩
      go_wp2_with fail
      refine (HN.out _).mono ?_; rintro e w2 ⟨rfl, rfl⟩
      go_wp2_with fail
      go_ret
      exact ⟨rfl, HM.out⟩
end Go.Proofs.YtjlooeaffbnjgaaGreat
