/- Texts: the same texts are found alike. Sum. -/
import Derived.Test.YtpnicodjjbincaaDoorSSplW
namespace Go.Proofs.YtpnicodjjbincaaDoor
open Go.RowKit
set_option linter.unusedVariables false
set_option maxHeartbeats 4000000
set_option maxRecDepth 100000
theorem textsW (xs : List Tx) (v v' : Value) (w : World) (hl : xs.length ≤ 1000000) (h1 : Has w w.heap.size 1 encT v xs) (h2 : Has w w.heap.size 1 encT v' xs) :
    Calls Tryd.prog 18 #[v, v'] w fun e w' => e = .returned (.bool true) ∧ Mod (fun _ => False) w w' := by
  obtain ⟨A, c, rfl, hc⟩ := h1.form
  obtain ⟨A', c', rfl, hc'⟩ := h2.form
  have H1 := Lib.hid h1
  have H2 := Lib.hid h2
  generalize hn : xs.length = n at *
  have HN := Lib.hid hn
  clear h1 h2 hn
  go_enter Tryd.func18, Tryd.ntmps18
  go_wp2_with fail
  go_loopw [5] (fun i wr => ∃ k : Nat, i = .int .i64 k ∧ k ≤ n ∧ Mod (fun _ => False) w wr) (fun i _ => n - (intOf i).toNat)
  case atStart => exact ⟨0, rfl, by omega, Mod.refl _ _⟩
  case round =>
    obtain ⟨k, rfl, hk, hm⟩ := hrel
    by_cases hkn : k < n
    · have hkz : (k : Int) < (n : Int) := by omega
      have hkz0 : (0 : Int) ≤ (k : Int) := by omega
      have hx? := List.getElem?_eq_getElem (show k < xs.length by have := HN.out; omega)
      obtain ⟨g, off, rfl, hg, hc1⟩ := (H1.out.later hm (Nat.le_refl _)).at_ encT_len hx?
      obtain ⟨g', off', rfl, hg', hc2⟩ := (H2.out.later hm (Nat.le_refl _)).at_ encT_len hx?
      generalize xs[k]'(show k < xs.length by have := HN.out; omega) = t at *
      have hc1 := hc1 0 (by decide)
      have hc2 := hc2 0 (by decide)
      simp only [encT, Nat.mul_one, Nat.add_zero, List.getElem?_cons_zero] at hc1 hc2
      have HM := Lib.hid hm
      clear hx? hm
      go_wp2_with fail
      go_quiet (fail)
      go_wp2_with fail
      go_roundw
      case rel => exact ⟨k + 1, by go_num, by omega, HM.out.drewN _⟩
      case measure => simp [intOf]; omega
    · obtain rfl : k = n := by omega
      have HM := Lib.hid hm
      clear hm
      go_wp2_with fail
      go_ret
      exact ⟨rfl, HM.out⟩
theorem sumW (n a : Int) (v : Value) (B : Nat) (w : World) (h : Has w B 1 encI v [a, 1]) (n0 : 0 ≤ n) (n1 : n ≤ 1000) (a0 : 0 ≤ a) (a1 : a ≤ 9223372036854775807) :
    Calls Tryd.prog 15 #[.int .i64 n, v] w fun e w' => (∃ r, e = .returned (.int .i64 r) ∧ ((r = n + a + 1 ∧ r ≤ 1099511627776) ∨ r = 1099511627776)) ∧ w = w' := by
  obtain ⟨A, cap, rfl, hcap⟩ := h.form
  obtain ⟨g, off, rfl, _, c0⟩ := h.at_ encI_len (i := 0) (x := a) rfl
  obtain ⟨g', off', e', _, c1⟩ := h.at_ encI_len (i := 1) (x := 1) rfl
  injection e' with e'
  injection e' with e1 e2
  subst e1 e2
  have c0 : w.cell? ⟨g, off, none⟩ = some (.int .i64 a) := c0 0 (by decide)
  have c1 : w.cell? ⟨g, off + 1, none⟩ = some (.int .i64 1) := c1 0 (by decide)
  have hl : ([a, 1] : List Int).length = 2 := rfl
  rw [hl]
  clear h hcap hl
  have w1 : IntKind.i64.wrap (1099511627776 - n) = 1099511627776 - n := by rw [IntKind.wrap_i64]; omega
  go_enter Tryd.func15, Tryd.ntmps15
  go_wp2_with fail
  go_loopw [0, 5] (fun s i wr => ∃ k : Nat, i = .int .i64 k ∧ wr = w ∧ ((k = 0 ∧ s = .int .i64 n) ∨ (k = 1 ∧ s = .int .i64 (n + a) ∧ n + a ≤ 1099511627776) ∨ (k = 2 ∧ s = .int .i64 (n + a + 1) ∧ n + a + 1 ≤ 1099511627776))) (fun _ i _ => 2 - (intOf i).toNat)
  case atStart => exact ⟨0, rfl, rfl, .inl ⟨rfl, rfl⟩⟩
  case round =>
    obtain ⟨k, rfl, rfl, hc⟩ := hrel
    rcases hc with ⟨rfl, rfl⟩ | ⟨rfl, rfl, hb⟩ | ⟨rfl, rfl, hb⟩
    · by_cases hs : 1099511627776 - n < a
      · go_wp2_with fail
        go_ret
        exact ⟨⟨_, rfl, .inr rfl⟩, rfl⟩
      · go_wp2_with fail
        go_roundw
        case rel => exact ⟨1, by go_num, by first | trivial | rfl, .inr (.inl ⟨rfl, by go_num, by omega⟩)⟩
        case measure => simp [intOf]
    · by_cases hs : 1099511627776 - (n + a) < 1
      · go_wp2_with fail
        go_ret
        exact ⟨⟨_, rfl, .inr rfl⟩, rfl⟩
      · go_wp2_with fail
        go_roundw
        case rel => exact ⟨2, by go_num, by first | trivial | rfl, .inr (.inr ⟨rfl, by go_num, by omega⟩)⟩
        case measure => simp [intOf]
    · go_wp2_with fail
      go_ret
      exact ⟨⟨_, rfl, .inl ⟨rfl, hb⟩⟩, rfl⟩
end Go.Proofs.YtpnicodjjbincaaDoor
