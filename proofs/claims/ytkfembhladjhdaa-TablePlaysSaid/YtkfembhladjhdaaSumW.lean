/- The sum of three, as far as it goes. -/
import Derived.Test.YtkfembhladjhdaaCmpW
namespace Go.Proofs.Ytkfembhladjhdaa
open Go.RowKit Go.Sort
set_option linter.unusedVariables false
set_option maxHeartbeats 4000000
set_option maxRecDepth 100000
attribute [local go_sem ↓] Go.wp_at_zero Go.wp_at_succ
theorem sumW (n a : Int) (v : Value) (B : Nat) (w : World) (h : Has w B 1 encI v [a, 1]) (n0 : 0 ≤ n) (n1 : n ≤ 1000) (a0 : 0 ≤ a) (a1 : a ≤ 9223372036854775807) :
    Calls Try.prog 12 #[.int .i64 n, v] w fun e w' => (∃ r, e = .returned (.int .i64 r) ∧ ((r = n + a + 1 ∧ r ≤ 1099511627776) ∨ r = 1099511627776)) ∧ w = w' := by
  obtain ⟨A, cap, rfl, hcap⟩ := h.form
  obtain ⟨g, off, rfl, _, c0⟩ := h.atI (i := 0) (x := a) rfl
  obtain ⟨g', off', e', _, c1⟩ := h.atI (i := 1) (x := 1) rfl
  injection e' with e'
  injection e' with e1 e2
  subst e1 e2
  rw [Nat.add_zero] at c0
  have hl : ([a, 1] : List Int).length = 2 := rfl
  rw [hl]
  clear h hcap hl
  have w1 : IntKind.i64.wrap (1099511627776 - n) = 1099511627776 - n := by rw [IntKind.wrap_i64]; omega
  go_enter Try.func12, Try.ntmps12
  go_wp2_with fail
  go_loopw [0, 5] (fun s i wr => ∃ k : Nat, i = .int .i64 k ∧ wr = w ∧ ((k = 0 ∧ s = .int .i64 n) ∨ (k = 1 ∧ s = .int .i64 (n + a) ∧ n + a ≤ 1099511627776) ∨ (k = 2 ∧ s = .int .i64 (n + a + 1) ∧ n + a + 1 ≤ 1099511627776))) (fun _ i _ => 2 - (intOf i).toNat)
  case atStart => exact ⟨0, rfl, rfl, .inl ⟨rfl, rfl⟩⟩
  case round =>
    obtain ⟨k, rfl, rfl, hc⟩ := hrel
    rcases hc with ⟨rfl, rfl⟩ | ⟨rfl, rfl, hb⟩ | ⟨rfl, rfl, hb⟩
    · by_cases hs : 1099511627776 - n < a
      · go_wp2_with fail
        go_ret
        exact ⟨⟨_, rfl, .inr rfl⟩, rfl⟩
      · go_wp2_with fail
        go_roundw
        case rel => exact ⟨1, by go_num, by first | trivial | rfl, .inr (.inl ⟨rfl, by go_num, by omega⟩)⟩
        case measure => simp [intOf]
    · by_cases hs : 1099511627776 - (n + a) < 1
      · go_wp2_with fail
        go_ret
        exact ⟨⟨_, rfl, .inr rfl⟩, rfl⟩
      · go_wp2_with fail
        go_roundw
        case rel => exact ⟨2, by go_num, by first | trivial | rfl, .inr (.inr ⟨rfl, by go_num, by omega⟩)⟩
        case measure => simp [intOf]
    · go_wp2_with fail
      go_ret
      exact ⟨⟨_, rfl, .inl ⟨rfl, hb⟩⟩, rfl⟩
end Go.Proofs.Ytkfembhladjhdaa
