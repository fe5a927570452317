/- Contracts of numbers with a point, in the program and in the document's answer. -/
import Derived.Test.YtigkndbkaagboaaGreatDoorAddW
import Derived.Test.YtigkndbkaagboaaGreatDoorRatP
import Derived.Test.YtigkndbkaagboaaGreatDoorReShelf
import Derived.Laws.BitsAllLaws
namespace Go.Proofs.YtigkndbkaagboaaGreatDoor
open Go.RowKit
set_option linter.unusedVariables false
set_option maxHeartbeats 2000000
set_option maxRecDepth 100000
theorem fixClamp (v lo hi : Int) (w : World) :
    Calls Tryz.prog 54 #[.int .i64 v, .int .i64 lo, .int .i64 hi] w fun e w' => e = .returned (.int .i64 (clampZ v lo hi)) ∧ w = w' := by
  go_enter Tryz.func54, Tryz.ntmps54
  go_wp2
  · go_ret
    exact ⟨ret_int (clampZ_lt (by assumption)).symm, rfl⟩
  · go_ret
    exact ⟨ret_int (clampZ_gt (by omega) (by assumption)).symm, rfl⟩
  · go_ret
    exact ⟨ret_int (clampZ_in (by omega) (by omega)).symm, rfl⟩
theorem fixIn (v : Int) (w : World) :
    Calls Tryz.prog 94 #[.int .i64 v] w fun e w' => e = .returned (.int .i64 (wholeZ v)) ∧ w = w' := by
  go_enter Tryz.func94, Tryz.ntmps94
  go_wp2_with (go_at_call 54; refine (fixClamp _ _ _ _).mono ?_; rintro e w' ⟨rfl, rfl⟩)
  go_ret
  exact ⟨rfl, rfl⟩
theorem or_zero (n : Int) (h0 : 0 ≤ n) (h1 : n < 18446744073709551616) : bits .or .u64 n 0 = n := by
  rw [u64_or n 0 h0 h1 (by omega) (by omega)]
  simp
  omega
theorem productW (x y : Nat) (hx : x ≤ 1125899906842624) (hy : y ≤ 1125899906842624) (h : x * y ≤ 9007199254740992) (w : World) :
    Calls Tryz.prog 141 #[.int .i64 (x : Int), .int .i64 (y : Int), .int .i64 16] w fun e w' => e = .returned (.int .i64 (byZ x y)) ∧ w = w' := by
  have hm := Tryz.bits_Mul64 x y (by omega) (by omega) w
  rw [Nat.div_eq_of_lt (by omega), Nat.mod_eq_of_lt (by omega)] at hm
  have hb : byZ (x : Int) (y : Int) = ((x * y : Nat) : Int) / 65536 := by unfold byZ; rw [Int.natCast_mul]
  rw [hb]
  generalize x * y = p at *
  have hp0 : (0 : Int) ≤ (p : Int) / 65536 := by omega
  have hp1 : (p : Int) / 65536 ≤ 137438953472 := by omega
  have HM := Lib.hid hm
  have ho := or_zero ((p : Int) / 65536) hp0 (by omega)
  have HO := Lib.hid ho
  clear hm ho
  go_enter Tryz.func141, Tryz.ntmps141
  go_wp2_with (go_at_call 185; refine HM.out.mono ?_; rintro e w' ⟨rfl, rfl⟩)
  go_ret
  exact ⟨ret_int (by rw [HO.out, Int.min_eq_left (by omega)]; unfold wrap64; omega), rfl⟩
theorem timesW (f n : Int) (f0 : 0 ≤ f) (f1 : f ≤ 1125899906842624) (n0 : 0 ≤ n) (n1 : n ≤ 1125899906842624) (h : f * n ≤ 9007199254740992) (w : World) :
    Calls Tryz.prog 93 #[.int .i64 f, .int .i64 n] w fun e w' => e = .returned (.int .i64 (byZ f n)) ∧ w = w' := by
  have hf := wholeZ_in f0 f1
  have hn := wholeZ_in n0 n1
  have c1 := fixIn f w
  have c2 := numWhole n w
  rw [hf] at c1
  rw [hn] at c2
  obtain ⟨x, rfl⟩ := Int.eq_ofNat_of_zero_le f0
  obtain ⟨y, rfl⟩ := Int.eq_ofNat_of_zero_le n0
  have c3 := productW x y (by omega) (by omega) (by rw [← Int.natCast_mul] at h; omega) w
  have C1 := Lib.hid c1
  have C2 := Lib.hid c2
  have C3 := Lib.hid c3
  generalize byZ (x : Int) (y : Int) = z at *
  clear c1 c2 c3 h hf hn
  go_enter Tryz.func93, Tryz.ntmps93
  go_wp2_with fail
  refine C1.out.mono ?_
  rintro e w' ⟨rfl, rfl⟩
  go_wp2_with fail
  refine C2.out.mono ?_
  rintro e w' ⟨rfl, rfl⟩
  go_wp2_with fail
  refine C3.out.mono ?_
  rintro e w' ⟨rfl, rfl⟩
  go_wp2_with fail
  go_ret
  exact ⟨rfl, rfl⟩
theorem byW (f g : Int) (f0 : 0 ≤ f) (f1 : f ≤ 1125899906842624) (g0 : 0 ≤ g) (g1 : g ≤ 1125899906842624) (h : f * g ≤ 9007199254740992) (w : World) :
    Calls Tryz.prog 53 #[.int .i64 f, .int .i64 g] w fun e w' => e = .returned (.int .i64 (byZ f g)) ∧ w = w' := by
  have c1 := fixIn g w
  rw [wholeZ_in g0 g1] at c1
  have c2 := timesW f g f0 f1 g0 g1 h w
  have C1 := Lib.hid c1
  have C2 := Lib.hid c2
  clear c1 c2 h
  go_enter Tryz.func53, Tryz.ntmps53
  go_wp2_with fail
  refine C1.out.mono ?_
  rintro e w' ⟨rfl, rfl⟩
  go_wp2_with fail
  refine C2.out.mono ?_
  rintro e w' ⟨rfl, rfl⟩
  go_wp2_with fail
  go_ret
  exact ⟨rfl, rfl⟩
theorem plusW (f g : Int) (f0 : 0 ≤ f) (g0 : 0 ≤ g) (h : f + g ≤ 1125899906842624) (w : World) :
    Calls Tryz.prog 92 #[.int .i64 f, .int .i64 g] w fun e w' => e = .returned (.int .i64 (f + g)) ∧ w = w' := by
  have c1 := fixIn f w
  rw [wholeZ_in f0 (by omega)] at c1
  have c2 := fixIn g w
  rw [wholeZ_in g0 (by omega)] at c2
  have c3 := fixIn (f + g) w
  rw [wholeZ_in (by omega) h] at c3
  have C1 := Lib.hid c1
  have C2 := Lib.hid c2
  have C3 := Lib.hid c3
  clear c1 c2 c3
  go_enter Tryz.func92, Tryz.ntmps92
  go_wp2_with fail
  refine C1.out.mono ?_
  rintro e w' ⟨rfl, rfl⟩
  go_wp2_with fail
  refine C2.out.mono ?_
  rintro e w' ⟨rfl, rfl⟩
  go_wp2_with fail
  refine C3.out.mono ?_
  rintro e w' ⟨rfl, rfl⟩
  go_wp2_with fail
  go_ret
  exact ⟨rfl, rfl⟩
theorem numOf (n : Int) (n0 : 0 ≤ n) (n1 : n ≤ 1073741824) (w : World) :
    Calls Tryz.prog 49 #[.int .i64 n] w fun e w' => e = .returned (.int .i64 (n * 65536)) ∧ w = w' := by
  have c1 := numClamp n 0 17179869184 w
  rw [clampZ_in (by omega) (by omega)] at c1
  have C1 := Lib.hid c1
  clear c1
  go_enter Tryz.func49, Tryz.ntmps49
  go_wp2_with fail
  refine C1.out.mono ?_
  rintro e w' ⟨rfl, rfl⟩
  go_wp2_with fail
  go_ret
  exact ⟨rfl, rfl⟩
theorem partW (a b : Int) (a0 : 0 ≤ a) (a1 : a ≤ 1073741824) (b0 : 1 ≤ b) (b1 : b ≤ 1073741824) (w : World) :
    Calls Tryz.prog 51 #[.int .i64 a, .int .i64 b] w fun e w' => e = .returned (.tuple #[.int .i64 (a * 65536 / b), .int .i64 0]) ∧ w = w' := by
  have hd : (a * 65536).tdiv b = a * 65536 / b := Int.tdiv_eq_ediv_of_nonneg (by omega)
  have hb : 0 ≤ a * 65536 / b ∧ a * 65536 / b ≤ a * 65536 := ⟨Int.ediv_nonneg (by omega) (by omega), Int.ediv_le_self b (by omega)⟩
  have hz : (b == 0) = false := by simp; omega
  have hz1 : ¬ b = 0 := by omega
  have hw : IntKind.i64.wrap (a * 65536 / b) = a * 65536 / b := by simp [IntKind.wrap, IntKind.bits, IntKind.signed]; omega
  have hw2 : IntKind.i64.wrap ((a * 65536).tdiv b) = a * 65536 / b := by rw [hd]; exact hw
  go_enter Tryz.func51, Tryz.ntmps51
  go_wp2
  go_ret2
  exact ⟨rfl, rfl⟩
theorem partNo (a : Int) (w : World) :
    Calls Tryz.prog 51 #[.int .i64 a, .int .i64 0] w fun e w' => e = .returned (.tuple #[.int .i64 0, .int .i64 1]) ∧ w = w' := by
  go_enter Tryz.func51, Tryz.ntmps51
  by_cases h : a < 0 <;> (go_wp2; go_ret2; exact ⟨rfl, rfl⟩)
theorem refPart (a b : Int) (a0 : 0 ≤ a) (a1 : a ≤ 1073741824) (b0 : 1 ≤ b) (b1 : b ≤ 1073741824) (w : World) :
    Calls Tryz.prog 56 #[.int .i64 a, .int .i64 b] w fun e w' => e = .returned (.tuple #[.int .i64 (a * 65536 / b), .int .i64 0]) ∧ w = w' := by
  have hd : (a * 65536).tdiv b = a * 65536 / b := Int.tdiv_eq_ediv_of_nonneg (by omega)
  have hb : 0 ≤ a * 65536 / b ∧ a * 65536 / b ≤ a * 65536 := ⟨Int.ediv_nonneg (by omega) (by omega), Int.ediv_le_self b (by omega)⟩
  have hz : (b == 0) = false := by simp; omega
  have hz1 : ¬ b = 0 := by omega
  have hw : IntKind.i64.wrap (a * 65536 / b) = a * 65536 / b := by simp [IntKind.wrap, IntKind.bits, IntKind.signed]; omega
  have hw2 : IntKind.i64.wrap ((a * 65536).tdiv b) = a * 65536 / b := by rw [hd]; exact hw
  go_enter Tryz.func56, Tryz.ntmps56
  go_wp2
  go_ret2
  exact ⟨rfl, rfl⟩
theorem refOver (a b : Int) (a0 : 0 ≤ a) (a1 : a ≤ 1125899906842624) (b0 : 0 ≤ b) (b1 : b ≤ 1125899906842624) (h : a * b ≤ 9007199254740992) (w : World) :
    Calls Tryz.prog 95 #[.int .i64 a, .int .i64 b] w fun e w' => e = .returned (.int .i64 (byZ a b)) ∧ w = w' := by
  obtain ⟨⟨p0, p1⟩, ⟨q0, q1, q2⟩, ⟨r0, r1⟩, he⟩ := over_law a0 b0 h
  have ha := i64_and25 a
  have hb := i64_and25 b
  have hle : byZ a b ≤ 1125899906842624 := by unfold byZ; omega
  have hge := by_nn a0 b0
  have hc := refHold (byZ a b) w
  rw [wholeZ_in hge hle] at hc
  have HC := Lib.hid hc
  generalize byZ a b = z at *
  clear h hc
  go_enter Tryz.func95, Tryz.ntmps95
  go_wp2_with fail
  rw [Int.min_eq_left q2, he]
  refine HC.out.mono ?_
  rintro e w' ⟨rfl, rfl⟩
  go_wp2_with fail
  go_ret
  exact ⟨rfl, rfl⟩
theorem refBy (f g : Int) (f0 : 0 ≤ f) (f1 : f ≤ 1125899906842624) (g0 : 0 ≤ g) (g1 : g ≤ 1125899906842624) (h : f * g ≤ 9007199254740992) (w : World) :
    Calls Tryz.prog 58 #[.int .i64 f, .int .i64 g] w fun e w' => e = .returned (.int .i64 (byZ f g)) ∧ w = w' := by
  have c1 := refHold f w
  rw [wholeZ_in f0 f1] at c1
  have c2 := refHold g w
  rw [wholeZ_in g0 g1] at c2
  have c3 := refOver f g f0 f1 g0 g1 h w
  have C1 := Lib.hid c1
  have C2 := Lib.hid c2
  have C3 := Lib.hid c3
  clear c1 c2 c3 h
  go_enter Tryz.func58, Tryz.ntmps58
  go_wp2_with fail
  refine C1.out.mono ?_
  rintro e w' ⟨rfl, rfl⟩
  go_wp2_with fail
  refine C2.out.mono ?_
  rintro e w' ⟨rfl, rfl⟩
  go_wp2_with fail
  refine C3.out.mono ?_
  rintro e w' ⟨rfl, rfl⟩
  go_wp2_with fail
  go_ret
  exact ⟨rfl, rfl⟩
theorem refPlus (f g : Int) (f0 : 0 ≤ f) (g0 : 0 ≤ g) (h : f + g ≤ 1125899906842624) (w : World) :
    Calls Tryz.prog 57 #[.int .i64 f, .int .i64 g] w fun e w' => e = .returned (.int .i64 (f + g)) ∧ w = w' := by
  have c1 := refAdd1 f g w
  rw [addZ_in f0 g0 h] at c1
  have C1 := Lib.hid c1
  clear c1
  go_enter Tryz.func57, Tryz.ntmps57
  go_wp2_with fail
  refine C1.out.mono ?_
  rintro e w' ⟨rfl, rfl⟩
  go_wp2_with fail
  go_ret
  exact ⟨rfl, rfl⟩
end Go.Proofs.YtigkndbkaagboaaGreatDoor
