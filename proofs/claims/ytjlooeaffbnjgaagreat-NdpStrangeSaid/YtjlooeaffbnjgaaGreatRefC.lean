/- mizzenref1.Check of frames that may be. -/
import Derived.Test.YtjlooeaffbnjgaaGreatWir
namespace Go.Proofs.YtjlooeaffbnjgaaGreat
open Go.RowKit
set_option linter.unusedVariables false
set_option maxHeartbeats 4000000
set_option maxRecDepth 100000
theorem refCheckOk {k s d p m o l t nn : Int} {n : Nat} (h : FrmOk k s d p m o l t nn n) (A : Option Addr) (c : Nat) (w : World) :
    Calls Tryz.prog 32 #[.agg #[.int .i64 k, .int .i64 s, .int .i64 d, .int .i64 p, .int .u64 m, .int .i64 o, .int .i64 l, .int .i64 t, .int .i64 nn, .slice A n c]] w fun e w' => e = .returned (.int .i64 0) ∧ Mod NoB w w' := by
  obtain ⟨k1, k2, s1, s2, d1, d2, p1, p2, m2, o1, o2, l1, l2, t1, t2, n1, n2, fit, dat⟩ := h
  have HM := Lib.hid ((Mod.refl NoB w).alloc (.cells #[.int .i64 k, .int .i64 s, .int .i64 d, .int .i64 p, .int .u64 m, .int .i64 o, .int .i64 l, .int .i64 t, .int .i64 nn, .slice A n c] 65))
  have hw : IntKind.i64.wrap (o + l) = o + l := by rw [IntKind.wrap_i64]; omega
  by_cases hk1 : k = 1
  · subst hk1
    have hf := fit (.inl rfl)
    rw [if_pos rfl] at dat
    subst dat
    have e0 : ((n : Int) != (n : Int)) = false := by simp
    clear fit
    go_enter Tryz.func32, Tryz.ntmps32
    go_wp2_with fail
    go_ret
    exact ⟨rfl, HM.out⟩
  · rw [if_neg hk1] at dat
    obtain rfl : n = 0 := by omega
    have e1 : (k == 1) = false := by simp [hk1]
    have e2 : (k != 1) = true := by simp [hk1]
    by_cases hk7 : k = 7
    · subst hk7
      have hf := fit (.inr rfl)
      clear fit dat e1 e2
      go_enter Tryz.func32, Tryz.ntmps32
      go_wp2_with fail
      go_ret
      exact ⟨rfl, HM.out⟩
    · have e7 : (k == 7) = false := by simp [hk7]
      clear fit dat
      go_enter Tryz.func32, Tryz.ntmps32
      go_wp2_with fail
      go_ret
      exact ⟨rfl, HM.out⟩
end Go.Proofs.YtjlooeaffbnjgaaGreat
