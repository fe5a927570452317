/- slices.BinarySearch at uint64, in a row that rises. -/
import Derived.Test.YtddnlbkocmpffaaZPeeP
import Derived.Test.YtddnlbkocmpffaaZSplc
import Derived.WalkLawsBesides
namespace Go.Proofs.Ytddnlbkocmpffaa
open Go.RowKit
set_option linter.unusedVariables false
set_option maxHeartbeats 4000000
set_option maxRecDepth 100000
theorem lessU (a b : Int) (w : World) : Calls Try.prog 89 #[.int .u64 a, .int .u64 b] w fun e w' => e = .returned (.bool (decide (a < b))) ∧ w = w' := by
  go_enter Try.func89, Try.ntmps89
  go_wp2
  go_ret
  exact ⟨rfl, rfl⟩
theorem nanB (a : Int) (w : World) : Calls Try.prog 90 #[.int .u64 a] w fun e w' => e = .returned (.bool false) ∧ w = w' := by
  go_enter Try.func90, Try.ntmps90
  go_wp2
  go_ret
  exact ⟨rfl, rfl⟩
/-- Where a number stands, or would stand. -/
def placeU (xs : List Int) (t : Int) : Nat := xs.countP (fun z => decide (z < t))
theorem placeU_le (xs : List Int) (t : Int) : placeU xs t ≤ xs.length := List.countP_le_length
theorem place_of {xs : List Int} {t : Int} {p : Nat} (hp : p ≤ xs.length) (h1 : ∀ z ∈ xs.take p, z < t) (h2 : ∀ z ∈ xs.drop p, t ≤ z) : placeU xs t = p := by
  unfold placeU
  conv => lhs; rw [← List.take_append_drop p xs]
  rw [List.countP_append, List.countP_eq_length.2 (fun z hz => by simpa using h1 z hz), List.countP_eq_zero.2 (fun z hz => by simpa using h2 z hz), List.length_take]
  omega
theorem take_lt {xs : List Int} {t : Int} {k : Nat} (hs : xs.Pairwise (· < ·)) {x : Int} (hx : xs[k]? = some x) (h : x < t) : ∀ z ∈ xs.take (k + 1), z < t := fun z hz => by
  obtain ⟨j, hj, rfl⟩ := List.mem_iff_getElem.1 hz
  rw [List.length_take] at hj
  have hkl := (List.getElem?_eq_some_iff.1 hx).1
  have hxe := (List.getElem?_eq_some_iff.1 hx).2
  rw [List.getElem_take]
  rcases Nat.lt_or_ge j k with hjk | hjk
  · have := List.pairwise_iff_getElem.1 hs j k (by omega) hkl hjk
    omega
  · obtain rfl : j = k := by omega
    rw [hxe]
    exact h
theorem drop_ge {xs : List Int} {t : Int} {k : Nat} (hs : xs.Pairwise (· < ·)) {x : Int} (hx : xs[k]? = some x) (h : t ≤ x) : ∀ z ∈ xs.drop k, t ≤ z := fun z hz => by
  obtain ⟨j, hj, rfl⟩ := List.mem_iff_getElem.1 hz
  rw [List.length_drop] at hj
  have hkl := (List.getElem?_eq_some_iff.1 hx).1
  have hxe := (List.getElem?_eq_some_iff.1 hx).2
  rw [List.getElem_drop]
  rcases Nat.eq_zero_or_pos j with rfl | hj0
  · simp only [Nat.add_zero]
    rw [hxe]
    exact h
  · have := List.pairwise_iff_getElem.1 hs k (k + j) hkl (by omega) (by omega)
    omega
theorem binU (v : Value) (xs : List Int) (t : Int) (w : World) (B : Nat) (h : Own w B 29 1 encU v xs) (hs : xs.Pairwise (· < ·)) (hn : xs.length ≤ 1000000) :
    Calls Try.prog 67 #[v, .int .u64 t] w fun e w' => e = .returned (.tuple #[.int .i64 (placeU xs t : Nat), .bool (decide (t ∈ xs))]) ∧ Mod (fun _ => False) w w' := by
  obtain ⟨A, cap, rfl, hc, -⟩ := h.form
  have HH := Lib.hid h.has
  have HS := Lib.hid hs
  generalize hnl : xs.length = n at *
  have HN := Lib.hid hnl
  obtain ⟨R, hR⟩ : ∃ R, placeU xs t = R := ⟨_, rfl⟩
  rw [hR]
  have HR := Lib.hid hR
  obtain ⟨D, hD⟩ : ∃ D, decide (t ∈ xs) = D := ⟨_, rfl⟩
  rw [hD]
  have HD := Lib.hid hD
  clear h hs hnl hR hD
  go_enter Try.func67, Try.ntmps67
  go_wp2_with fail
  go_loopw [7, 8] (fun a b wr => ∃ i j : Nat, a = .int .i64 i ∧ b = .int .i64 j ∧ i ≤ j ∧ j ≤ n ∧ Hid ((∀ z ∈ xs.take i, z < t) ∧ ∀ z ∈ xs.drop j, t ≤ z) ∧ Mod (fun _ => False) w wr) (fun a b _ => (intOf b).toNat - (intOf a).toNat)
  case atStart => exact ⟨0, n, rfl, rfl, by omega, by omega, Lib.hid ⟨fun z h => by simp at h, fun z h => by rw [← HN.out, List.drop_length] at h; cases h⟩, Mod.refl _ _⟩
  case round =>
    obtain ⟨i, j, rfl, rfl, hij, hjn, hrel, hm⟩ := hrel
    by_cases hlt : i < j
    · have hz : (i : Int) < (j : Int) := by omega
      obtain ⟨m, hmid⟩ : ∃ m : Nat, ((i : Int) + (j : Int)) / 2 = (m : Int) := ⟨(i + j) / 2, by omega⟩
      have hm1 : i ≤ m := by omega
      have hm2 : m < j := by omega
      have hmx : m < xs.length := by rw [HN.out]; omega
      have hx? := List.getElem?_eq_getElem hmx
      obtain ⟨g, off, rfl, hg, c0⟩ := (HH.out.later hm (Nat.le_refl _)).at_ encU_len hx?
      generalize xs[m]'hmx = x at *
      have c1 : wr.cell? ⟨g, off + m, none⟩ = some (.int .u64 x) := by
        have := c0 0 (by omega)
        simpa using this
      have hmz : (m : Int) < (n : Int) := by omega
      have hmz0 : (0 : Int) ≤ (m : Int) := by omega
      have HX := Lib.hid hx?
      have HM := Lib.hid hm
      clear hx? c0 hm hmx
      by_cases hxt : x < t
      · have hd : decide (x < t) = true := by simpa using hxt
        go_wp2_with fail
        refine (lessU x t wr).mono ?_
        rintro e w5 ⟨rfl, rfl⟩
        go_wp2_with fail
        go_roundw
        case rel => exact ⟨m + 1, j, by go_num, rfl, by omega, hjn, Lib.hid ⟨take_lt HS.out HX.out hxt, hrel.out.2⟩, HM.out⟩
        case measure => simp [intOf]; omega
      · have hd : decide (x < t) = false := by simpa using hxt
        go_wp2_with fail
        refine (lessU x t wr).mono ?_
        rintro e w5 ⟨rfl, rfl⟩
        go_wp2_with fail
        go_roundw
        case rel => exact ⟨i, m, rfl, rfl, hm1, by omega, Lib.hid ⟨hrel.out.1, drop_ge HS.out HX.out (by omega)⟩, HM.out⟩
        case measure => simp [intOf]; omega
    · obtain rfl : i = j := by omega
      have hz : ¬ (i : Int) < (i : Int) := by omega
      obtain ⟨h1, h2⟩ := hrel.out
      have hpl := place_of (by rw [HN.out]; exact hjn) h1 h2
      obtain rfl : R = i := by rw [← HR.out]; exact hpl
      have HM := Lib.hid hm
      by_cases hin : R < n
      · have hinz : (R : Int) < (n : Int) := by omega
        have hinz0 : (0 : Int) ≤ (R : Int) := by omega
        have hmx : R < xs.length := by rw [HN.out]; omega
        have hx? := List.getElem?_eq_getElem hmx
        obtain ⟨g, off, rfl, hg, c0⟩ := (HH.out.later hm (Nat.le_refl _)).at_ encU_len hx?
        have hxm : xs[R]'hmx ∈ xs.drop R := by rw [List.drop_eq_getElem_cons hmx]; exact List.mem_cons_self ..
        have hxin := List.getElem_mem hmx
        have hiff : t ∈ xs ↔ xs[R]'hmx = t := by
          refine ⟨fun ht => ?_, fun e => by rw [← e]; exact hxin⟩
          have hx2 := h2 _ hxm
          rw [← List.take_append_drop R xs] at ht
          rcases List.mem_append.1 ht with h | h
          · have := h1 t h; omega
          · rw [List.drop_eq_getElem_cons hmx] at h
            rcases List.mem_cons.1 h with h | h
            · exact h.symm
            · obtain ⟨k, hk, rfl⟩ := List.mem_iff_getElem.1 h
              rw [List.length_drop] at hk
              rw [List.getElem_drop] at hx2 ⊢
              have := List.pairwise_iff_getElem.1 HS.out R (R + 1 + k) hmx (by omega) (by omega)
              omega
        generalize xs[R]'hmx = x at *
        have c1 : wr.cell? ⟨g, off + R, none⟩ = some (.int .u64 x) := by
          have := c0 0 (by omega)
          simpa using this
        clear hx? c0 hm hmx hxm hxin h1 h2 hrel hpl HR
        by_cases hxt : x = t
        · obtain rfl : D = true := by rw [← HD.out]; simpa using hiff.2 hxt
          subst hxt
          clear hiff
          go_wp2_with fail
          go_ret2
          exact ⟨rfl, HM.out⟩
        · obtain rfl : D = false := by rw [← HD.out]; simpa using fun e => hxt (hiff.1 e)
          have hxb : (x == t) = false := by simpa using hxt
          clear hiff
          go_wp2_with fail
          refine (nanB x wr).mono ?_
          rintro e w5 ⟨rfl, rfl⟩
          go_wp2_with fail
          go_ret2
          exact ⟨rfl, HM.out⟩
      · obtain rfl : n = R := by omega
        have hnm : ¬ t ∈ xs := fun ht => by
          rw [List.take_of_length_le (by rw [HN.out]; exact Nat.le_refl _)] at h1
          have := h1 t ht
          omega
        obtain rfl : D = false := by rw [← HD.out]; simpa using hnm
        clear hrel hpl hnm h1 h2 hm HR
        go_wp2_with fail
        go_ret2
        exact ⟨rfl, HM.out⟩
end Go.Proofs.Ytddnlbkocmpffaa
