/- The reference's names. -/
import Derived.Test.YtflkdkghpoccgaaDoorNameW
import Derived.Test.YtflkdkghpoccgaaDoorTopoN
import Derived.Test.YtflkdkghpoccgaaDoorTopoR
import Derived.Test.YtflkdkghpoccgaaDoorDecW
import Derived.Test.YtflkdkghpoccgaaDoorNameT
namespace Go.Proofs.YtflkdkghpoccgaaDoor
open Go.RowKit
set_option linter.unusedVariables false
set_option maxHeartbeats 2000000
set_option maxRecDepth 100000
theorem decimalI (x : Int) (h0 : 0 ≤ x) (h1 : x < 16) (w : World) :
    Calls Tryd.prog 28 #[.int .i64 x] w fun e w' => e = .returned (.string (decB x.toNat)) ∧ Mod (fun _ => False) w w' := by
  obtain ⟨n, rfl⟩ := Int.eq_ofNat_of_zero_le h0
  exact decimalW n (by omega) w
/-- As the reference puts it together. -/
theorem two_eq (a b : ByteArray) (c : UInt8) (x y : Nat) (hb : b = ⟨#[c]⟩) : ((a ++ decB x) ++ ⟨#[45, c]⟩) ++ decB y = twoB a x b y := by
  subst hb
  apply ByteArray.ext
  apply Array.ext'
  simp [twoB, ByteArray.data_append]
theorem refNameW (b : Nat) (h lv s p : Int) (w : World) (n : Nr w b h lv s) :
    Calls Tryd.prog 13 #[.pointer (some ⟨b, 0, none⟩), .int .i64 p] w fun e w' => e = .returned (.string (nameB lv s (kindZ h lv s p).1 (kindZ h lv s p).2)) ∧ Mod (fun _ => False) w w' := by
  obtain ⟨o1, o2, olv, o3, o4⟩ := n.2
  obtain ⟨q1, q2, q3, q4, q5⟩ := n.2.m
  obtain ⟨g0, g1, k0, k1⟩ := kindZ_bd n.2 p
  have hK := refKindW b h lv s p w n
  unfold nameB
  generalize (kindZ h lv s p).1 = g at *
  generalize (kindZ h lv s p).2 = k at *
  clear q5 olv
  have t1 : ((⟨#[104]⟩ : ByteArray).size : Int) = 1 := rfl
  have t2 : ((⟨#[108]⟩ : ByteArray).size : Int) = 1 := rfl
  have t3 : ((⟨#[115]⟩ : ByteArray).size : Int) = 1 := rfl
  have u1 : (⟨#[45, 104]⟩ : ByteArray).size = 2 := rfl
  have u2 : (⟨#[45, 115]⟩ : ByteArray).size = 2 := rfl
  have u3 : (⟨#[45, 108]⟩ : ByteArray).size = 2 := rfl
  by_cases c1 : g = 1
  · skip
    subst c1
    rw [if_pos rfl]
    rw [show abZ lv s 1 k = (k, 0) by simp [abZ]] at hK
    have r0 : (0 : Int) ≤ k := by omega
    have r1 : (k : Int) < 16 := by omega
    have r2 : (0 : Int) ≤ 0 := by omega
    have r3 : (0 : Int) < 16 := by omega
    have s1 := decB_size (k : Int).toNat
    have s2 := decB_size (0 : Int).toNat
    have e1 : ¬ ((9223372036854775807 : Int) < ((⟨#[104]⟩ : ByteArray).size : Int) + ((decB (k : Int).toNat).size : Int)) := by omega
    have HK := Lib.hid hK
    clear hK
    go_enter Tryd.func13, Tryd.ntmps13
    go_wp2_with fail
    refine HK.out.mono ?_
    rintro e w1 ⟨rfl, m1⟩
    go_wp2_with fail
    refine (decimalI _ r0 r1 _).mono ?_
    rintro e w2 ⟨rfl, m2⟩
    go_wp2_with fail
    refine (decimalI _ r2 r3 _).mono ?_
    rintro e w3 ⟨rfl, m3⟩
    go_wp2
    go_ret
    exact ⟨rfl, (m1.trans m2 (fun _ _ h => h)).trans m3 (fun _ _ h => h)⟩
  · rw [if_neg c1]
    by_cases c2 : g = 2
    · skip
      subst c2
      rw [if_pos rfl]
      rw [show abZ lv s 2 k = (k / 2, k) by simp [abZ]] at hK
      have r0 : 0 ≤ k / 2 := Int.ediv_nonneg k0 (by omega)
      have r1 : k / 2 < 16 := Int.lt_of_le_of_lt (Int.ediv_le_self _ k0) k1
      have r2 : (0 : Int) ≤ k := by omega
      have r3 : (k : Int) < 16 := by omega
      have s1 := decB_size (k / 2 : Int).toNat
      have s2 := decB_size (k : Int).toNat
      have e1 : ¬ ((9223372036854775807 : Int) < ((⟨#[108]⟩ : ByteArray).size : Int) + ((decB (k / 2 : Int).toNat).size : Int)) := by omega
      have e2 : ¬ ((9223372036854775807 : Int) < (((⟨#[108]⟩ : ByteArray) ++ decB (k / 2 : Int).toNat).size : Int) + ((⟨#[45, 104]⟩ : ByteArray).size : Int)) := by
        rw [ByteArray.size_append]; omega
      have e3 : ¬ ((9223372036854775807 : Int) < ((((⟨#[108]⟩ : ByteArray) ++ decB (k / 2 : Int).toNat) ++ ⟨#[45, 104]⟩).size : Int) + ((decB (k : Int).toNat).size : Int)) := by
        rw [ByteArray.size_append, ByteArray.size_append]; omega
      have HK := Lib.hid hK
      clear hK
      go_enter Tryd.func13, Tryd.ntmps13
      go_wp2_with fail
      refine HK.out.mono ?_
      rintro e w1 ⟨rfl, m1⟩
      go_wp2_with fail
      refine (decimalI _ r0 r1 _).mono ?_
      rintro e w2 ⟨rfl, m2⟩
      go_wp2_with fail
      refine (decimalI _ r2 r3 _).mono ?_
      rintro e w3 ⟨rfl, m3⟩
      go_wp2
      go_ret
      exact ⟨congrArg (fun z => Ending.returned (Value.string z)) (two_eq _ ⟨#[104]⟩ 104 _ _ rfl), (m1.trans m2 (fun _ _ h => h)).trans m3 (fun _ _ h => h)⟩
    · rw [if_neg c2]
      by_cases c3 : g = 3
      · skip
        subst c3
        rw [if_pos rfl]
        rw [show abZ lv s 3 k = (k / s, k % s) by simp [abZ]] at hK
        have r0 : 0 ≤ k / s := Int.ediv_nonneg k0 (by omega)
        have r1 : k / s < 16 := Int.lt_of_le_of_lt (Int.ediv_le_self _ k0) k1
        have r2 : 0 ≤ k % s := Int.emod_nonneg _ (by omega)
        have r3 : k % s < 16 := Int.lt_of_lt_of_le (Int.emod_lt_of_pos _ (by omega)) (by omega : s ≤ 16)
        have s1 := decB_size (k / s : Int).toNat
        have s2 := decB_size (k % s : Int).toNat
        have e1 : ¬ ((9223372036854775807 : Int) < ((⟨#[108]⟩ : ByteArray).size : Int) + ((decB (k / s : Int).toNat).size : Int)) := by omega
        have e2 : ¬ ((9223372036854775807 : Int) < (((⟨#[108]⟩ : ByteArray) ++ decB (k / s : Int).toNat).size : Int) + ((⟨#[45, 115]⟩ : ByteArray).size : Int)) := by
          rw [ByteArray.size_append]; omega
        have e3 : ¬ ((9223372036854775807 : Int) < ((((⟨#[108]⟩ : ByteArray) ++ decB (k / s : Int).toNat) ++ ⟨#[45, 115]⟩).size : Int) + ((decB (k % s : Int).toNat).size : Int)) := by
          rw [ByteArray.size_append, ByteArray.size_append]; omega
        have HK := Lib.hid hK
        clear hK
        go_enter Tryd.func13, Tryd.ntmps13
        go_wp2_with fail
        refine HK.out.mono ?_
        rintro e w1 ⟨rfl, m1⟩
        go_wp2_with fail
        refine (decimalI _ r0 r1 _).mono ?_
        rintro e w2 ⟨rfl, m2⟩
        go_wp2_with fail
        refine (decimalI _ r2 r3 _).mono ?_
        rintro e w3 ⟨rfl, m3⟩
        go_wp2
        go_ret
        exact ⟨congrArg (fun z => Ending.returned (Value.string z)) (two_eq _ ⟨#[115]⟩ 115 _ _ rfl), (m1.trans m2 (fun _ _ h => h)).trans m3 (fun _ _ h => h)⟩
      · rw [if_neg c3]
        by_cases c4 : g = 4
        · skip
          subst c4
          rw [if_pos rfl]
          rw [show abZ lv s 4 k = (k / lv, k % lv) by simp [abZ]] at hK
          have r0 : 0 ≤ k / lv := Int.ediv_nonneg k0 (by omega)
          have r1 : k / lv < 16 := Int.lt_of_le_of_lt (Int.ediv_le_self _ k0) k1
          have r2 : 0 ≤ k % lv := Int.emod_nonneg _ (by omega)
          have r3 : k % lv < 16 := Int.lt_of_lt_of_le (Int.emod_lt_of_pos _ (by omega)) (by omega : lv ≤ 16)
          have s1 := decB_size (k / lv : Int).toNat
          have s2 := decB_size (k % lv : Int).toNat
          have e1 : ¬ ((9223372036854775807 : Int) < ((⟨#[115]⟩ : ByteArray).size : Int) + ((decB (k / lv : Int).toNat).size : Int)) := by omega
          have e2 : ¬ ((9223372036854775807 : Int) < (((⟨#[115]⟩ : ByteArray) ++ decB (k / lv : Int).toNat).size : Int) + ((⟨#[45, 108]⟩ : ByteArray).size : Int)) := by
            rw [ByteArray.size_append]; omega
          have e3 : ¬ ((9223372036854775807 : Int) < ((((⟨#[115]⟩ : ByteArray) ++ decB (k / lv : Int).toNat) ++ ⟨#[45, 108]⟩).size : Int) + ((decB (k % lv : Int).toNat).size : Int)) := by
            rw [ByteArray.size_append, ByteArray.size_append]; omega
          have HK := Lib.hid hK
          clear hK
          go_enter Tryd.func13, Tryd.ntmps13
          go_wp2_with fail
          refine HK.out.mono ?_
          rintro e w1 ⟨rfl, m1⟩
          go_wp2_with fail
          refine (decimalI _ r0 r1 _).mono ?_
          rintro e w2 ⟨rfl, m2⟩
          go_wp2_with fail
          refine (decimalI _ r2 r3 _).mono ?_
          rintro e w3 ⟨rfl, m3⟩
          go_wp2
          go_ret
          exact ⟨congrArg (fun z => Ending.returned (Value.string z)) (two_eq _ ⟨#[108]⟩ 108 _ _ rfl), (m1.trans m2 (fun _ _ h => h)).trans m3 (fun _ _ h => h)⟩
        · rw [if_neg c4]
          have c0 : g = 0 := by omega
          clear c1 c2 c3 c4
          subst c0
          rw [show abZ lv s 0 k = (0, 0) by simp [abZ]] at hK
          have r0 : (0 : Int) ≤ 0 := by omega
          have r1 : (0 : Int) < 16 := by omega
          have r2 : (0 : Int) ≤ 0 := by omega
          have r3 : (0 : Int) < 16 := by omega
          have s1 := decB_size (0 : Int).toNat
          have s2 := decB_size (0 : Int).toNat
          have HK := Lib.hid hK
          clear hK
          go_enter Tryd.func13, Tryd.ntmps13
          go_wp2_with fail
          refine HK.out.mono ?_
          rintro e w1 ⟨rfl, m1⟩
          go_wp2_with fail
          refine (decimalI _ r0 r1 _).mono ?_
          rintro e w2 ⟨rfl, m2⟩
          go_wp2_with fail
          refine (decimalI _ r2 r3 _).mono ?_
          rintro e w3 ⟨rfl, m3⟩
          go_wp2
          go_ret
          exact ⟨rfl, (m1.trans m2 (fun _ _ h => h)).trans m3 (fun _ _ h => h)⟩
end Go.Proofs.YtflkdkghpoccgaaDoor
