/- Ports' names. -/
import Derived.Test.YtflkdkghpoccgaaDoorItoaW
import Derived.Test.YtflkdkghpoccgaaDoorTopoK
namespace Go.Proofs.YtflkdkghpoccgaaDoor
open Go.RowKit
set_option linter.unusedVariables false
set_option maxHeartbeats 2000000
set_option maxRecDepth 100000
theorem decB_size (n : Nat) : (decB n).size ≤ 20 := by
  unfold decB
  rw [strOfNums_size]
  exact dec_len n
theorem formatW (n : Nat) (hn : n < 16) (w : World) :
    Calls Tryd.prog 30 #[.int .i64 n, .int .i64 10] w fun e w' => e = .returned (.string (decB n)) ∧ w' = w := by
  have hn0 : (0 : Int) ≤ n := by omega
  have hn1 : (n : Int) < 100 := by omega
  go_enter Tryd.func30, Tryd.ntmps30
  go_wp2_with fail
  refine (smallW n hn _).mono ?_
  rintro e w1 ⟨rfl, rfl⟩
  go_wp2
  go_ret
  exact ⟨rfl, rfl⟩
theorem itoaInW (n : Nat) (hn : n < 16) (w : World) :
    Calls Tryd.prog 29 #[.int .i64 n] w fun e w' => e = .returned (.string (decB n)) ∧ w' = w := by
  have hn0 : (0 : Int) ≤ n := by omega
  go_enter Tryd.func29, Tryd.ntmps29
  go_wp2_with fail
  refine (formatW n hn _).mono ?_
  rintro e w1 ⟨rfl, rfl⟩
  go_wp2
  go_ret
  exact ⟨rfl, rfl⟩
theorem itoaW (n : Nat) (hn : n < 16) (w : World) :
    Calls Tryd.prog 27 #[.int .i64 n] w fun e w' => e = .returned (.string (decB n)) ∧ w' = w := by
  have hn0 : (0 : Int) ≤ n := by omega
  go_enter Tryd.func27, Tryd.ntmps27
  go_wp2_with fail
  refine (itoaInW n hn _).mono ?_
  rintro e w1 ⟨rfl, rfl⟩
  go_wp2
  go_ret
  exact ⟨rfl, rfl⟩
/-- Two letters, each with its number. -/
def twoB (a : ByteArray) (x : Nat) (b : ByteArray) (y : Nat) : ByteArray := (((a ++ decB x) ++ ⟨#[45]⟩) ++ b) ++ decB y
theorem twoW (a b : ByteArray) (ha : a.size = 1) (hb : b.size = 1) (x y : Nat) (hx : x < 16) (hy : y < 16) (w : World) :
    Calls Tryd.prog 26 #[.string a, .int .i64 x, .string b, .int .i64 y] w fun e w' => e = .returned (.string (twoB a x b y)) ∧ w' = w := by
  have hsx := decB_size x
  have hsy := decB_size y
  have e1 : ¬ ((9223372036854775807 : Int) < (a.size : Int) + ((decB x).size : Int)) := by omega
  have e2 : ¬ ((9223372036854775807 : Int) < ((a ++ decB x).size : Int) + ((⟨#[45]⟩ : ByteArray).size : Int)) := by
    have : ((⟨#[45]⟩ : ByteArray).size : Int) = 1 := rfl
    rw [ByteArray.size_append]; omega
  have e3 : ¬ ((9223372036854775807 : Int) < (((a ++ decB x) ++ ⟨#[45]⟩).size : Int) + (b.size : Int)) := by
    have : (⟨#[45]⟩ : ByteArray).size = 1 := rfl
    rw [ByteArray.size_append, ByteArray.size_append]; omega
  have e4 : ¬ ((9223372036854775807 : Int) < ((((a ++ decB x) ++ ⟨#[45]⟩) ++ b).size : Int) + ((decB y).size : Int)) := by
    have : (⟨#[45]⟩ : ByteArray).size = 1 := rfl
    rw [ByteArray.size_append, ByteArray.size_append, ByteArray.size_append]; omega
  go_enter Tryd.func26, Tryd.ntmps26
  go_wp2_with fail
  refine (itoaW x hx _).mono ?_
  rintro e w1 ⟨rfl, rfl⟩
  go_wp2_with fail
  refine (itoaW y hy _).mono ?_
  rintro e w1 ⟨rfl, rfl⟩
  go_wp2
  go_ret
  exact ⟨rfl, rfl⟩
end Go.Proofs.YtflkdkghpoccgaaDoor
