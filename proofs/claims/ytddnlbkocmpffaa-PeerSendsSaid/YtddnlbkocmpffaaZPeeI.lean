/- mizzenalike's Sum and Round; texts that came in. -/
import Derived.Test.YtddnlbkocmpffaaZPeeM
import Derived.Test.YtddnlbkocmpffaaZG0
import Derived.Deep.Slices
namespace Go.Proofs.Ytddnlbkocmpffaa
open Go.RowKit
set_option linter.unusedVariables false
set_option maxHeartbeats 4000000
set_option maxRecDepth 100000
/-- Of two numbers that a call was handed. -/
theorem sumG (n a : Int) (g : Nat) (w : World) (c0 : w.cell? ⟨g, 0, none⟩ = some (.int .i64 a)) (c1 : w.cell? ⟨g, 1, none⟩ = some (.int .i64 1)) (n0 : 0 ≤ n) (n1 : n ≤ 1099511627776) (a0 : 0 ≤ a) (a1 : a ≤ 9223372036854775807) :
    Calls Try.prog 13 #[.int .i64 n, .slice (some ⟨g, 0, none⟩) 2 2] w fun e w' => (∃ r, e = .returned (.int .i64 r) ∧ ((r = n + a + 1 ∧ r ≤ 1099511627776) ∨ r = 1099511627776)) ∧ w = w' := by
  have w1 : IntKind.i64.wrap (1099511627776 - n) = 1099511627776 - n := by rw [IntKind.wrap_i64]; omega
  have hn : ¬ 1099511627776 < n := by omega
  go_enter Try.func13, Try.ntmps13
  go_wp2_with fail
  go_loopw [0, 5] (fun s i wr => ∃ k : Nat, i = .int .i64 k ∧ wr = w ∧ ((k = 0 ∧ s = .int .i64 n) ∨ (k = 1 ∧ s = .int .i64 (n + a) ∧ n + a ≤ 1099511627776) ∨ (k = 2 ∧ s = .int .i64 (n + a + 1) ∧ n + a + 1 ≤ 1099511627776))) (fun _ i _ => 2 - (intOf i).toNat)
  case atStart => exact ⟨0, rfl, rfl, .inl ⟨rfl, rfl⟩⟩
  case round =>
    obtain ⟨k, rfl, rfl, hc⟩ := hrel
    rcases hc with ⟨rfl, rfl⟩ | ⟨rfl, rfl, hb⟩ | ⟨rfl, rfl, hb⟩
    · by_cases hs : 1099511627776 - n < a
      · go_wp2_with fail
        go_ret
        exact ⟨⟨_, rfl, .inr rfl⟩, rfl⟩
      · go_wp2_with fail
        go_roundw
        case rel => exact ⟨1, by go_num, by first | trivial | rfl, .inr (.inl ⟨rfl, by go_num, by omega⟩)⟩
        case measure => simp [intOf]
    · have hb' : ¬ 1099511627776 < n + a := by omega
      by_cases hs : 1099511627776 - (n + a) < 1
      · go_wp2_with fail
        go_ret
        exact ⟨⟨_, rfl, .inr rfl⟩, rfl⟩
      · go_wp2_with fail
        go_roundw
        case rel => exact ⟨2, by go_num, by first | trivial | rfl, .inr (.inr ⟨rfl, by go_num, by omega⟩)⟩
        case measure => simp [intOf]
    · go_wp2_with fail
      go_ret
      exact ⟨⟨_, rfl, .inl ⟨rfl, hb⟩⟩, rfl⟩
theorem tmodS_bd {p s : Int} (h : 1 ≤ s) : -s < p.tmod s ∧ p.tmod s < s := by
  have h1 := Int.tmod_lt_of_pos p (show (0 : Int) < s by omega)
  have h2 := Int.lt_tmod_of_pos p (show (0 : Int) < s by omega)
  omega
theorem roundG (k n : Int) (hk : -9223372036854775808 ≤ k) (hk' : k ≤ 9223372036854775807) (h1 : 1 ≤ n) (h2 : n ≤ 1099511627776) (w : World) :
    Calls Try.prog 30 #[.int .i64 k, .int .i64 n] w fun e w' => e = .returned (.int .i64 (k % n)) ∧ w = w' := by
  have hb := tmodS_bd (p := k) (s := n) (by omega)
  have he : k % n = if k.tmod n < 0 then k.tmod n + n else k.tmod n := by
    have h3 := Int.tmod_add_mul_tdiv k n
    have h4 : k % n = (k.tmod n) % n := by
      conv => lhs; rw [← h3]
      rw [Int.add_mul_emod_self_left]
    rw [h4]
    split
    · rw [← Int.add_emod_right, Int.emod_eq_of_lt (by omega) (by omega)]
    · rw [Int.emod_eq_of_lt (by omega) (by omega)]
  rw [he]
  generalize hq : k.tmod n = q at *
  clear he
  by_cases hc : q < 0
  · rw [if_pos hc]
    go_enter Try.func30, Try.ntmps30
    go_wp2
    go_ret
    exact ⟨rfl, rfl⟩
  · rw [if_neg hc]
    go_enter Try.func30, Try.ntmps30
    go_wp2
    go_ret
    exact ⟨rfl, rfl⟩
/-- Texts that came in, in blocks below B. -/
def HasT (w : World) (B : Nat) (tv : Value) (T : List (List Int)) : Prop :=
  ∃ rows : List Value, Has w B 1 (fun v => [v]) tv rows ∧ rows.length = T.length ∧ ∀ (k : Nat) (v : Value) (t : List Int), rows[k]? = some v → T[k]? = some t → Has w B 1 encB v t
theorem HasT.later {w w' : World} {B : Nat} {tv : Value} {T : List (List Int)} (h : HasT w B tv T) (m : Mod NoB w w') (hB : B ≤ w.heap.size) : HasT w' B tv T := by
  obtain ⟨rows, h1, h2, h3⟩ := h
  exact ⟨rows, h1.later m hB, h2, fun k v t hv ht => (h3 k v t hv ht).later m hB⟩
theorem HasT.form {w : World} {B : Nat} {tv : Value} {T : List (List Int)} (h : HasT w B tv T) : ∃ A cap, tv = .slice A T.length cap ∧ T.length ≤ cap := by
  obtain ⟨rows, h1, h2, -⟩ := h
  obtain ⟨A, cap, e, hc⟩ := h1.form
  rw [h2] at e hc
  exact ⟨A, cap, e, hc⟩
/-- A text, and the cell that it hangs from. -/
theorem HasT.at_ {w : World} {B : Nat} {A : Option Addr} {n cap : Nat} {T : List (List Int)} (h : HasT w B (.slice A n cap) T) {k : Nat} {t : List Int} (hk : T[k]? = some t) :
    ∃ g off Ar cr, A = some ⟨g, off, none⟩ ∧ g < B ∧ w.cell? ⟨g, off + k, none⟩ = some (.slice Ar t.length cr) ∧ Has w B 1 encB (.slice Ar t.length cr) t := by
  obtain ⟨rows, h1, h2, h3⟩ := h
  have hkl := (List.getElem?_eq_some_iff.1 hk).1
  have hr := List.getElem?_eq_getElem (show k < rows.length by omega)
  obtain ⟨g, off, rfl, hg, c0⟩ := Has.at_ (enc := fun v : Value => [v]) (sz := 1) (fun _ => rfl) h1 hr
  have ht := h3 k _ t hr hk
  obtain ⟨Ar, cr, e, -⟩ := ht.form
  refine ⟨g, off, Ar, cr, rfl, hg, ?_, by rw [← e]; exact ht⟩
  have := c0 0 (by omega)
  rw [Nat.mul_one, Nat.add_zero] at this
  rw [this, ← e]
  rfl
/-- A slice's first things. -/
theorem Has.firsts {α : Type} {enc : α → List Value} {sz : Nat} {w : World} {B n cap : Nat} {A : Option Addr} {xs : List α} (hE : ∀ x, (enc x).length = sz) (h : Has w B sz enc (.slice A n cap) xs) {c : Nat} (hc : c ≤ n) : Has w B sz enc (.slice A c cap) (xs.take c) := by
  obtain ⟨A', cap', e, h1, h2, h3, h4⟩ := h
  injection e with e1 e2 e3
  subst e1 e3
  have hl : (xs.take c).length = c := by rw [List.length_take]; omega
  refine ⟨A, cap, by rw [hl], by rw [hl]; omega, h2, ⟨by rw [flat_len hE], fun hn => ?_⟩, fun g e hn => h4 g e (by omega)⟩
  obtain ⟨ad, e, r1, r2⟩ := h3.2 (by omega)
  refine ⟨ad, e, r1, fun j u hu => r2 j u ?_⟩
  rw [← flat_take hE, List.getElem?_take] at hu
  split at hu
  · exact hu
  · cases hu
/-- The block of a slice that holds something lies below. -/
theorem Has.block {α : Type} {enc : α → List Value} {sz : Nat} {w : World} {B : Nat} {v : Value} {xs : List α} (h : Has w B sz enc v xs) (hn : 0 < xs.length) {k : Nat} (hk : v.ownBlock = some k) : k < B := by
  obtain ⟨A, cap, rfl, h1, h2, h3, h4⟩ := h
  cases A with
  | none => cases hk
  | some a =>
    have := (h4 a rfl hn).2
    have : a.block = k := Option.some.inj hk
    omega
end Go.Proofs.Ytddnlbkocmpffaa
