/- The code's names. -/
import Derived.Test.YtflkdkghpoccgaaDoorNameW
import Derived.Test.YtflkdkghpoccgaaDoorTopoN

namespace Go.Proofs.YtflkdkghpoccgaaDoor
open Go.RowKit
set_option linter.unusedVariables false
set_option maxHeartbeats 2000000
set_option maxRecDepth 100000
/-- A port's name. -/
def nameB (lv s g k : Int) : ByteArray :=
  if g = 1 then ⟨#[104]⟩ ++ decB k.toNat
  else if g = 2 then twoB ⟨#[108]⟩ (k / 2).toNat ⟨#[104]⟩ k.toNat
  else if g = 3 then twoB ⟨#[108]⟩ (k / s).toNat ⟨#[115]⟩ (k % s).toNat
  else if g = 4 then twoB ⟨#[115]⟩ (k / lv).toNat ⟨#[108]⟩ (k % lv).toNat
  else ⟨#[]⟩
theorem itoaI (x : Int) (h0 : 0 ≤ x) (h1 : x < 16) (w : World) :
    Calls Tryd.prog 27 #[.int .i64 x] w fun e w' => e = .returned (.string (decB x.toNat)) ∧ w' = w := by
  obtain ⟨n, rfl⟩ := Int.eq_ofNat_of_zero_le h0
  exact itoaW n (by omega) w
theorem twoI (a b : ByteArray) (ha : a.size = 1) (hb : b.size = 1) (x y : Int) (hx : 0 ≤ x) (hx' : x < 16) (hy : 0 ≤ y) (hy' : y < 16) (w : World) :
    Calls Tryd.prog 26 #[.string a, .int .i64 x, .string b, .int .i64 y] w fun e w' => e = .returned (.string (twoB a x.toNat b y.toNat)) ∧ w' = w := by
  obtain ⟨n, rfl⟩ := Int.eq_ofNat_of_zero_le hx
  obtain ⟨m, rfl⟩ := Int.eq_ofNat_of_zero_le hy
  exact twoW a b ha hb n m (by omega) (by omega) w
theorem kindZ_dn (h lv s p : Int) : (kindZ h lv s p).1 = 2 → (kindZ h lv s p).2 < h := by
  unfold kindZ
  split
  · simp
  · split
    · simp
    · split
      · simp; omega
      · split <;> simp
theorem nameNone (p : Int) (w : World) :
    Calls Tryd.prog 12 #[.pointer none, .int .i64 p] w fun e w' => e = .returned (.string ⟨#[]⟩) ∧ Mod (fun _ => False) w w' := by
  go_enter Tryd.func12, Tryd.ntmps12
  go_wp2_with fail
  refine (kindNone _ _).mono ?_
  rintro e w1 ⟨rfl, m1⟩
  go_wp2
  go_ret
  exact ⟨rfl, m1⟩
theorem nameW (b : Nat) (h lv s p : Int) (w : World) (n : Nt w b h lv s) :
    Calls Tryd.prog 12 #[.pointer (some ⟨b, 0, none⟩), .int .i64 p] w fun e w' => e = .returned (.string (nameB lv s (kindZ h lv s p).1 (kindZ h lv s p).2)) ∧ Mod (fun _ => False) w w' := by
  obtain ⟨o1, o2, olv, o3, o4⟩ := n.2
  obtain ⟨q1, q2, q3, q4, q5⟩ := n.2.m
  obtain ⟨g0, g1, k0, k1⟩ := kindZ_bd n.2 p
  have gd := kindZ_dn h lv s p
  have hK : ∀ w1, Nt w1 b h lv s → Calls Tryd.prog 22 #[.pointer (some ⟨b, 0, none⟩), .int .i64 p] w1 fun e w' => e = .returned (.tuple #[.int .i64 (kindZ h lv s p).1, .int .i64 (kindZ h lv s p).2]) ∧ Mod (fun _ => False) w1 w' := fun w1 n1 => kindW b h lv s p w1 n1
  unfold nameB
  generalize (kindZ h lv s p).1 = g at *
  generalize (kindZ h lv s p).2 = k at *
  have HK := Lib.hid hK
  have hz1 : (⟨#[104]⟩ : ByteArray).size = 1 := rfl
  have hz2 : (⟨#[108]⟩ : ByteArray).size = 1 := rfl
  have hz3 : (⟨#[115]⟩ : ByteArray).size = 1 := rfl
  clear hK q5 olv
  by_cases c1 : g = 1
  · subst c1
    rw [if_pos rfl]
    have hsk := decB_size k.toNat
    have e1 : ¬ ((9223372036854775807 : Int) < ((⟨#[104]⟩ : ByteArray).size : Int) + ((decB k.toNat).size : Int)) := by omega
    go_enter Tryd.func12, Tryd.ntmps12
    go_wp2_with fail
    refine (HK.out _ n).mono ?_
    rintro e w1 ⟨rfl, m1⟩
    go_wp2_with fail
    refine (itoaI k k0 k1 _).mono ?_
    rintro e w2 ⟨rfl, rfl⟩
    go_wp2
    go_ret
    exact ⟨rfl, m1⟩
  · rw [if_neg c1]
    by_cases c2 : g = 2
    · subst c2
      rw [if_pos rfl]
      have kh := gd rfl
      have lk : leafZ h k = k / 2 := by unfold leafZ; rw [if_neg (by omega)]
      have HL := Lib.hid lk
      have r0 : 0 ≤ k / 2 := by omega
      have r1 : k / 2 < 16 := by omega
      clear lk gd
      go_enter Tryd.func12, Tryd.ntmps12
      go_wp2_with fail
      refine (HK.out _ n).mono ?_
      rintro e w1 ⟨rfl, m1⟩
      have n1 := n.mod m1 (fun e => e)
      go_wp2_with fail
      refine (leafW _ _ _ _ _ _ n1).mono ?_
      rintro e w2 ⟨rfl, m2⟩
      rw [HL.out]
      go_wp2_with fail
      refine (twoI ⟨#[108]⟩ ⟨#[104]⟩ rfl rfl (k / 2) k r0 r1 k0 k1 _).mono ?_
      rintro e w3 ⟨rfl, rfl⟩
      go_wp2
      go_ret
      exact ⟨rfl, m1.trans m2 (fun _ _ h => h)⟩
    · rw [if_neg c2]
      by_cases c3 : g = 3
      · subst c3
        rw [if_pos rfl]
        have r0 : 0 ≤ k / s := Int.ediv_nonneg k0 (by omega)
        have r1 : k / s ≤ k := Int.ediv_le_self _ k0
        have r2 : 0 ≤ k % s := Int.emod_nonneg _ (by omega)
        have r3 : k % s < s := Int.emod_lt_of_pos _ (by omega)
        clear gd
        go_enter Tryd.func12, Tryd.ntmps12
        go_wp2_with fail
        refine (HK.out _ n).mono ?_
        rintro e w1 ⟨rfl, m1⟩
        have hc := (n.mod m1 (fun e => e)).1.cell
        go_wp2_with fail
        go_quiet ((go_at_call 26; refine (twoI ⟨#[108]⟩ ⟨#[115]⟩ rfl rfl (k / s) (k % s) r0 (by omega) r2 (by omega) _).mono ?_; rintro e w' ⟨rfl, rfl⟩; exact ⟨rfl, _, rfl⟩))
        go_wp2
        go_ret
        exact ⟨rfl, m1.drewN _⟩
      · rw [if_neg c3]
        by_cases c4 : g = 4
        · subst c4
          rw [if_pos rfl]
          have r0 : 0 ≤ k / lv := Int.ediv_nonneg k0 (by omega)
          have r1 : k / lv ≤ k := Int.ediv_le_self _ k0
          have r2 : 0 ≤ k % lv := Int.emod_nonneg _ (by omega)
          have r3 : k % lv < lv := Int.emod_lt_of_pos _ (by omega)
          clear gd
          go_enter Tryd.func12, Tryd.ntmps12
          go_wp2_with fail
          refine (HK.out _ n).mono ?_
          rintro e w1 ⟨rfl, m1⟩
          have hc := (n.mod m1 (fun e => e)).1.cell
          go_wp2_with fail
          go_quiet ((go_at_call 26; refine (twoI ⟨#[115]⟩ ⟨#[108]⟩ rfl rfl (k / lv) (k % lv) r0 (by omega) r2 (by omega) _).mono ?_; rintro e w' ⟨rfl, rfl⟩; exact ⟨rfl, _, rfl⟩))
          go_wp2
          go_ret
          exact ⟨rfl, m1.drewN _⟩
        · rw [if_neg c4]
          have cg : g = 0 := by omega
          subst cg
          clear gd
          go_enter Tryd.func12, Tryd.ntmps12
          go_wp2_with fail
          refine (HK.out _ n).mono ?_
          rintro e w1 ⟨rfl, m1⟩
          go_wp2
          go_ret
          exact ⟨rfl, m1⟩
end Go.Proofs.YtflkdkghpoccgaaDoor
