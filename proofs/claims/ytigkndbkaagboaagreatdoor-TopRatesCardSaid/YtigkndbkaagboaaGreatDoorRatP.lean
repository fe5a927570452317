/- Numbers with a point, and how a rate follows what was lost: plain. -/
import Derived.Test.YtigkndbkaagboaaGreatDoorNumP
import Derived.Laws.BitsLemmas
import Derived.Lib.Mul64
namespace Go.Proofs.YtigkndbkaagboaaGreatDoor
set_option linter.unusedVariables false
theorem i64_and25 (n : Int) : bits .and .i64 n 33554431 = n % 33554432 := by
  have h25 : (BitVec.ofInt 64 33554431).toNat = 2 ^ 25 - 1 := by decide
  have key : (BitVec.ofInt 64 n &&& BitVec.ofInt 64 33554431).toNat = (n % ((2 ^ 64 : Nat) : Int)).toNat % 2 ^ 25 := by
    rw [BitVec.toNat_and, BitVec.toNat_ofInt, h25, Nat.and_two_pow_sub_one_eq_mod]
  show IntKind.i64.wrap ((BitVec.ofInt 64 n &&& BitVec.ofInt 64 33554431).toNat : Nat) = n % 33554432
  rw [key, IntKind.wrap_i64]
  omega
/-- A product of two numbers with a point. -/
def byZ (f g : Int) : Int := f * g / 65536
theorem over_nat (a b : Nat) (h : a * b ≤ 9007199254740992) : a / 33554432 * (b / 33554432) < 65536 ∧ a / 33554432 * (b % 33554432) + a % 33554432 * (b / 33554432) ≤ 35184372088832 ∧ a % 33554432 * (b % 33554432) ≤ 9007199254740992 ∧
    a / 33554432 * (b / 33554432) * 17179869184 + (a / 33554432 * (b % 33554432) + a % 33554432 * (b / 33554432)) * 512 + a % 33554432 * (b % 33554432) / 65536 = a * b / 65536 := by
  have e : a * b = a / 33554432 * (b / 33554432) * (33554432 * 33554432) + (a / 33554432 * (b % 33554432) + a % 33554432 * (b / 33554432)) * 33554432 + a % 33554432 * (b % 33554432) := by
    rw [← Lib.split_mul, Nat.div_add_mod' a 33554432, Nat.div_add_mod' b 33554432]
  rw [e] at h ⊢
  generalize a / 33554432 * (b / 33554432) = p at *
  generalize a / 33554432 * (b % 33554432) = q at *
  generalize a % 33554432 * (b / 33554432) = r at *
  generalize a % 33554432 * (b % 33554432) = s at *
  refine ⟨by omega, by omega, by omega, by omega⟩
theorem over_law {a b : Int} (a0 : 0 ≤ a) (b0 : 0 ≤ b) (h : a * b ≤ 9007199254740992) : (0 ≤ a / 33554432 * (b / 33554432) ∧ a / 33554432 * (b / 33554432) < 65536) ∧ (0 ≤ a / 33554432 * (b % 33554432) ∧ 0 ≤ a % 33554432 * (b / 33554432) ∧ a / 33554432 * (b % 33554432) + a % 33554432 * (b / 33554432) ≤ 35184372088832) ∧
    (0 ≤ a % 33554432 * (b % 33554432) ∧ a % 33554432 * (b % 33554432) ≤ 9007199254740992) ∧
    a / 33554432 * (b / 33554432) * 17179869184 + (a / 33554432 * (b % 33554432) + a % 33554432 * (b / 33554432)) * 512 + a % 33554432 * (b % 33554432) / 65536 = byZ a b := by
  obtain ⟨x, rfl⟩ := Int.eq_ofNat_of_zero_le a0
  obtain ⟨y, rfl⟩ := Int.eq_ofNat_of_zero_le b0
  have hb : byZ (x : Int) (y : Int) = ((x * y : Nat) : Int) / 65536 := by unfold byZ; rw [Int.natCast_mul]
  rw [← Int.natCast_mul] at h
  obtain ⟨h1, h2, h3, h4⟩ := over_nat x y (by omega)
  have e1 : (x : Int) / 33554432 = ((x / 33554432 : Nat) : Int) := by omega
  have e2 : (x : Int) % 33554432 = ((x % 33554432 : Nat) : Int) := by omega
  have e3 : (y : Int) / 33554432 = ((y / 33554432 : Nat) : Int) := by omega
  have e4 : (y : Int) % 33554432 = ((y % 33554432 : Nat) : Int) := by omega
  rw [hb, e1, e2, e3, e4, ← Int.natCast_mul, ← Int.natCast_mul, ← Int.natCast_mul, ← Int.natCast_mul]
  generalize x / 33554432 * (y / 33554432) = p at *
  generalize x / 33554432 * (y % 33554432) = q at *
  generalize x % 33554432 * (y / 33554432) = r at *
  generalize x % 33554432 * (y % 33554432) = s at *
  generalize x * y = t at *
  refine ⟨⟨by omega, by omega⟩, ⟨by omega, by omega, by omega⟩, ⟨by omega, by omega⟩, by omega⟩
theorem by_nn {f g : Int} (hf : 0 ≤ f) (hg : 0 ≤ g) : 0 ≤ byZ f g := Int.ediv_nonneg (Int.mul_nonneg hf hg) (by omega)
theorem mul_le {f g F G : Int} (hf : 0 ≤ f) (hg : 0 ≤ g) (hF : f ≤ F) (hG : g ≤ G) : 0 ≤ f * g ∧ f * g ≤ F * G :=
  ⟨Int.mul_nonneg hf hg, Int.mul_le_mul hF hG hg (by omega)⟩
theorem by_le {f g F G : Int} (hf : 0 ≤ f) (hg : 0 ≤ g) (hF : f ≤ F) (hG : g ≤ G) : byZ f g ≤ byZ F G := by
  unfold byZ
  have := (mul_le hf hg hF hG).2
  omega
/-- A rate: its most, its target, the rate itself, its aggressiveness, how often it rose in a row. -/
structure CrS where
  M : Int
  T : Int
  R : Int
  A : Int
  n : Int
def CrOk (s : CrS) : Prop := 65536 ≤ s.M ∧ s.M ≤ 68719476736 ∧ 0 ≤ s.T ∧ s.T ≤ 65536 ∧ s.M / 64 ≤ s.R ∧ s.R ≤ s.M ∧ 1024 ≤ s.A ∧ s.A ≤ 32768 ∧ 0 ≤ s.n
def riseA (s : CrS) : Int := if 0 < s.n then (s.A + 32768) / 2 else s.A
def riseR (s : CrS) : Int := byZ (riseA s) s.M + byZ (65536 - riseA s) s.R
def sentZ (sent : Int) : Int := clampZ sent 0 1073741824
def lossZ (sent lost : Int) : Int := clampZ lost 0 (sentZ sent) * 65536 / sentZ sent
def updC (s : CrS) (sent lost : Int) : CrS :=
  if sentZ sent = 0 then s
  else if lossZ sent lost ≤ s.T then { s with R := clampZ (riseR s) (s.M / 64) s.M, A := clampZ (riseA s) 1024 32768, n := s.n + 1 }
  else { s with R := clampZ (byZ (byZ s.R (65536 - lossZ sent lost)) (65536 + s.T)) (s.M / 64) s.M, A := clampZ (s.A / 2) 1024 32768, n := 0 }
theorem riseA_bd {s : CrS} (h : CrOk s) : 1024 ≤ riseA s ∧ riseA s ≤ 32768 := by
  obtain ⟨h1, h2, h3, h4, h5, h6, h7, h8, h9⟩ := h
  unfold riseA
  split <;> omega
theorem sent_bd (sent : Int) : 0 ≤ sentZ sent ∧ sentZ sent ≤ 1073741824 := clampZ_bd _ _ _ (by omega)
theorem lost_bd (sent lost : Int) : 0 ≤ clampZ lost 0 (sentZ sent) ∧ clampZ lost 0 (sentZ sent) ≤ sentZ sent := clampZ_bd _ _ _ (sent_bd sent).1
theorem loss_bd {sent lost : Int} (h : sentZ sent ≠ 0) : 0 ≤ lossZ sent lost ∧ lossZ sent lost ≤ 65536 := by
  have h1 := sent_bd sent
  have h2 := lost_bd sent lost
  unfold lossZ
  refine ⟨Int.ediv_nonneg (by omega) (by omega), ?_⟩
  have : clampZ lost 0 (sentZ sent) * 65536 ≤ 65536 * sentZ sent := by omega
  exact Int.le_of_lt_add_one (Int.ediv_lt_of_lt_mul (by omega) (by omega))
/-- What a product of the walk may be, and what it comes to. -/
theorem rise_by1 {s : CrS} (h : CrOk s) : riseA s * s.M ≤ 9007199254740992 ∧ 0 ≤ byZ (riseA s) s.M ∧ byZ (riseA s) s.M ≤ 34359738368 := by
  have ha := riseA_bd h
  obtain ⟨h1, h2, h3, h4, h5, h6, h7, h8, h9⟩ := h
  have hm := mul_le (f := riseA s) (g := s.M) (F := 32768) (G := 68719476736) (by omega) (by omega) (by omega) (by omega)
  refine ⟨by omega, by_nn (by omega) (by omega), ?_⟩
  unfold byZ
  omega
theorem rise_by2 {s : CrS} (h : CrOk s) : (65536 - riseA s) * s.R ≤ 9007199254740992 ∧ 0 ≤ byZ (65536 - riseA s) s.R ∧ byZ (65536 - riseA s) s.R ≤ 68719476736 := by
  have ha := riseA_bd h
  obtain ⟨h1, h2, h3, h4, h5, h6, h7, h8, h9⟩ := h
  have hm := mul_le (f := 65536 - riseA s) (g := s.R) (F := 65536) (G := 68719476736) (by omega) (by omega) (by omega) (by omega)
  refine ⟨by omega, by_nn (by omega) (by omega), ?_⟩
  unfold byZ
  omega
theorem fall_by1 {s : CrS} (h : CrOk s) {z : Int} (z0 : 0 ≤ z) (z1 : z ≤ 65536) : s.R * (65536 - z) ≤ 9007199254740992 ∧ 0 ≤ byZ s.R (65536 - z) ∧ byZ s.R (65536 - z) ≤ 68719476736 := by
  obtain ⟨h1, h2, h3, h4, h5, h6, h7, h8, h9⟩ := h
  have hm := mul_le (f := s.R) (g := 65536 - z) (F := 68719476736) (G := 65536) (by omega) (by omega) (by omega) (by omega)
  refine ⟨by omega, by_nn (by omega) (by omega), ?_⟩
  unfold byZ
  omega
theorem fall_by2 {s : CrS} (h : CrOk s) {y : Int} (y0 : 0 ≤ y) (y1 : y ≤ 68719476736) : y * (65536 + s.T) ≤ 9007199254740992 ∧ 0 ≤ byZ y (65536 + s.T) ∧ byZ y (65536 + s.T) ≤ 137438953472 := by
  obtain ⟨h1, h2, h3, h4, h5, h6, h7, h8, h9⟩ := h
  have hm := mul_le (f := y) (g := 65536 + s.T) (F := 68719476736) (G := 131072) (by omega) (by omega) (by omega) (by omega)
  refine ⟨by omega, by_nn (by omega) (by omega), ?_⟩
  unfold byZ
  omega
theorem updC_ok {s : CrS} (h : CrOk s) (sent lost : Int) : CrOk (updC s sent lost) := by
  obtain ⟨h1, h2, h3, h4, h5, h6, h7, h8, h9⟩ := id h
  unfold updC
  split
  · exact h
  have c1 := fun v => clampZ_bd v (s.M / 64) s.M (by omega)
  have c2 := fun v => clampZ_bd v 1024 32768 (by omega)
  split
  · exact ⟨h1, h2, h3, h4, (c1 _).1, (c1 _).2, (c2 _).1, (c2 _).2, show (0 : Int) ≤ s.n + 1 by omega⟩
  · exact ⟨h1, h2, h3, h4, (c1 _).1, (c1 _).2, (c2 _).1, (c2 _).2, Int.le_refl 0⟩
theorem updC_n (s : CrS) (sent lost : Int) : (updC s sent lost).n ≤ max (s.n + 1) 0 := by
  unfold updC
  split
  · omega
  split
  · show s.n + 1 ≤ _
    omega
  · show (0 : Int) ≤ _
    omega
/-- A new rate. -/
def newC (most target : Int) : CrS := ⟨most * 65536, target, most * 65536 / 16, 32768, 0⟩
def askC (most target : Int) : Prop := 1 ≤ most ∧ most ≤ 1048576 ∧ 0 ≤ target ∧ target ≤ 65536
instance (most target : Int) : Decidable (askC most target) := by unfold askC; infer_instance
theorem newC_ok {most target : Int} (h : askC most target) : CrOk (newC most target) := by
  obtain ⟨h1, h2, h3, h4⟩ := h
  unfold CrOk newC
  refine ⟨?_, ?_, ?_, ?_, ?_, ?_, ?_, ?_, ?_⟩ <;> simp only <;> omega
end Go.Proofs.YtigkndbkaagboaaGreatDoor
