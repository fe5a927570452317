/- Messages in memory; which may be, and which are open. -/
import Derived.Test.YtigkndbkaagboaaGreatDoorSrP
import Derived.Test.YtigkndbkaagboaaGreatDoorRow2
import Derived.Test.YtigkndbkaagboaaGreatDoorAlike
import Derived.Deep.RegionHeld3
namespace Go.Proofs.YtigkndbkaagboaaGreatDoor
open Go.RowKit
set_option linter.unusedVariables false
set_option linter.unusedSimpArgs false
set_option maxHeartbeats 2000000
set_option maxRecDepth 100000
def encM (m : Ms) : List Value := [.int .i64 m.peer, .int .u64 m.id, .int .i64 m.total, .int .i64 m.hav, .int .i64 m.granted, .int .i64 m.born]
theorem encM_len (m : Ms) : (encM m).length = 6 := rfl
/-- A message as a value. -/
def aggM (m : Ms) : Value := .agg #[.int .i64 m.peer, .int .u64 m.id, .int .i64 m.total, .int .i64 m.hav, .int .i64 m.granted, .int .i64 m.born]
theorem Has.atM {w : World} {B : Nat} {A : Option Addr} {n cap : Nat} {ms : List Ms} (h : Has w B 6 encM (.slice A n cap) ms) {i : Nat} {m : Ms} (hi : ms[i]? = some m) :
    ∃ g off, A = some ⟨g, off, none⟩ ∧ g < B ∧ w.cell? ⟨g, off + i * 6, none⟩ = some (.int .i64 m.peer) ∧ w.cell? ⟨g, off + i * 6 + 1, none⟩ = some (.int .u64 m.id) ∧ w.cell? ⟨g, off + i * 6 + 2, none⟩ = some (.int .i64 m.total) ∧
      w.cell? ⟨g, off + i * 6 + 3, none⟩ = some (.int .i64 m.hav) ∧ w.cell? ⟨g, off + i * 6 + 4, none⟩ = some (.int .i64 m.granted) ∧ w.cell? ⟨g, off + i * 6 + 5, none⟩ = some (.int .i64 m.born) := by
  obtain ⟨g, off, h1, h2, h3⟩ := h.at_ encM_len hi
  have e : ∀ j, off + (i * 6 + j) = off + i * 6 + j := fun j => (Nat.add_assoc _ _ _).symm
  exact ⟨g, off, h1, h2, (e 0) ▸ h3 0 (by omega), (e 1) ▸ h3 1 (by omega), (e 2) ▸ h3 2 (by omega), (e 3) ▸ h3 3 (by omega), (e 4) ▸ h3 4 (by omega), (e 5) ▸ h3 5 (by omega)⟩
theorem mayW (m : Ms) (w : World) :
    Calls Tryz.prog 87 #[aggM m] w fun e w' => e = .returned (.bool (mayB m)) ∧ Mod (fun _ => False) w w' := by
  unfold aggM
  have hT : mayP m → mayB m = true := mayB_of
  have hF : ¬ mayP m → mayB m = false := mayB_not
  unfold mayP at hT hF
  generalize mayB m = r at *
  obtain ⟨peer, id, total, hav, granted, born⟩ := m
  simp only at hT hF ⊢
  by_cases h0 : 0 ≤ hav
  case neg =>
    obtain rfl : r = false := hF fun h => h0 h.1
    clear hT hF
    go_enter Tryz.func87, Tryz.ntmps87
    go_wp2
    go_ret
    exact ⟨rfl, (Mod.refl _ w).alloc _⟩
  by_cases h1 : hav ≤ granted
  case neg =>
    obtain rfl : r = false := hF fun h => h1 h.2.1
    clear hT hF
    go_enter Tryz.func87, Tryz.ntmps87
    go_wp2
    go_ret
    exact ⟨rfl, (Mod.refl _ w).alloc _⟩
  by_cases h2 : granted ≤ total
  case neg =>
    obtain rfl : r = false := hF fun h => h2 h.2.2.1
    clear hT hF
    go_enter Tryz.func87, Tryz.ntmps87
    go_wp2
    go_ret
    exact ⟨rfl, (Mod.refl _ w).alloc _⟩
  by_cases h3 : total ≤ 1073741824
  case neg =>
    obtain rfl : r = false := hF fun h => h3 h.2.2.2.1
    clear hT hF
    go_enter Tryz.func87, Tryz.ntmps87
    go_wp2
    go_ret
    exact ⟨rfl, (Mod.refl _ w).alloc _⟩
  by_cases h4 : 0 ≤ peer
  case neg =>
    obtain rfl : r = false := hF fun h => h4 h.2.2.2.2.1
    clear hT hF
    go_enter Tryz.func87, Tryz.ntmps87
    go_wp2
    go_ret
    exact ⟨rfl, (Mod.refl _ w).alloc _⟩
  by_cases h5 : peer ≤ 7
  case neg =>
    obtain rfl : r = false := hF fun h => h5 h.2.2.2.2.2.1
    clear hT hF
    go_enter Tryz.func87, Tryz.ntmps87
    go_wp2
    go_ret
    exact ⟨rfl, (Mod.refl _ w).alloc _⟩
  by_cases h6 : 1 ≤ id
  case neg =>
    obtain rfl : r = false := hF fun h => h6 h.2.2.2.2.2.2.1
    clear hT hF
    go_enter Tryz.func87, Tryz.ntmps87
    go_wp2
    go_ret
    exact ⟨rfl, (Mod.refl _ w).alloc _⟩
  by_cases h7 : id ≤ 1152921504606846976
  case neg =>
    obtain rfl : r = false := hF fun h => h7 h.2.2.2.2.2.2.2.1
    clear hT hF
    go_enter Tryz.func87, Tryz.ntmps87
    go_wp2
    go_ret
    exact ⟨rfl, (Mod.refl _ w).alloc _⟩
  by_cases h8 : 0 ≤ born
  case neg =>
    obtain rfl : r = false := hF fun h => h8 h.2.2.2.2.2.2.2.2.1
    clear hT hF
    go_enter Tryz.func87, Tryz.ntmps87
    go_wp2
    go_ret
    exact ⟨rfl, (Mod.refl _ w).alloc _⟩
  by_cases h9 : born ≤ 1125899906842624
  case neg =>
    obtain rfl : r = false := hF fun h => h9 h.2.2.2.2.2.2.2.2.2
    clear hT hF
    go_enter Tryz.func87, Tryz.ntmps87
    go_wp2
    go_ret
    exact ⟨rfl, (Mod.refl _ w).alloc _⟩
  obtain rfl : r = true := hT ⟨h0, h1, h2, h3, h4, h5, h6, h7, h8, h9⟩
  clear hT hF
  go_enter Tryz.func87, Tryz.ntmps87
  go_wp2
  go_ret
  exact ⟨rfl, (Mod.refl _ w).alloc _⟩
theorem refMayW (m : Ms) (w : World) :
    Calls Tryz.prog 129 #[aggM m] w fun e w' => e = .returned (.bool (mayB m)) ∧ Mod (fun _ => False) w w' := by
  unfold aggM
  have hT : mayP m → mayB m = true := mayB_of
  have hF : ¬ mayP m → mayB m = false := mayB_not
  unfold mayP at hT hF
  generalize mayB m = r at *
  obtain ⟨peer, id, total, hav, granted, born⟩ := m
  simp only at hT hF ⊢
  by_cases h0 : 0 ≤ hav
  case neg =>
    obtain rfl : r = false := hF fun h => h0 h.1
    clear hT hF
    go_enter Tryz.func129, Tryz.ntmps129
    go_wp2
    go_ret
    exact ⟨rfl, (Mod.refl _ w).alloc _⟩
  by_cases h1 : hav ≤ granted
  case neg =>
    obtain rfl : r = false := hF fun h => h1 h.2.1
    clear hT hF
    go_enter Tryz.func129, Tryz.ntmps129
    go_wp2
    go_ret
    exact ⟨rfl, (Mod.refl _ w).alloc _⟩
  by_cases h2 : granted ≤ total
  case neg =>
    obtain rfl : r = false := hF fun h => h2 h.2.2.1
    clear hT hF
    go_enter Tryz.func129, Tryz.ntmps129
    go_wp2
    go_ret
    exact ⟨rfl, (Mod.refl _ w).alloc _⟩
  by_cases h3 : total ≤ 1073741824
  case neg =>
    obtain rfl : r = false := hF fun h => h3 h.2.2.2.1
    clear hT hF
    go_enter Tryz.func129, Tryz.ntmps129
    go_wp2
    go_ret
    exact ⟨rfl, (Mod.refl _ w).alloc _⟩
  by_cases h4 : 0 ≤ peer
  case neg =>
    obtain rfl : r = false := hF fun h => h4 h.2.2.2.2.1
    clear hT hF
    go_enter Tryz.func129, Tryz.ntmps129
    go_wp2
    go_ret
    exact ⟨rfl, (Mod.refl _ w).alloc _⟩
  by_cases h5 : peer ≤ 7
  case neg =>
    obtain rfl : r = false := hF fun h => h5 h.2.2.2.2.2.1
    clear hT hF
    go_enter Tryz.func129, Tryz.ntmps129
    go_wp2
    go_ret
    exact ⟨rfl, (Mod.refl _ w).alloc _⟩
  by_cases h6 : 1 ≤ id
  case neg =>
    obtain rfl : r = false := hF fun h => h6 h.2.2.2.2.2.2.1
    clear hT hF
    go_enter Tryz.func129, Tryz.ntmps129
    go_wp2
    go_ret
    exact ⟨rfl, (Mod.refl _ w).alloc _⟩
  by_cases h7 : id ≤ 1152921504606846976
  case neg =>
    obtain rfl : r = false := hF fun h => h7 h.2.2.2.2.2.2.2.1
    clear hT hF
    go_enter Tryz.func129, Tryz.ntmps129
    go_wp2
    go_ret
    exact ⟨rfl, (Mod.refl _ w).alloc _⟩
  by_cases h8 : 0 ≤ born
  case neg =>
    obtain rfl : r = false := hF fun h => h8 h.2.2.2.2.2.2.2.2.1
    clear hT hF
    go_enter Tryz.func129, Tryz.ntmps129
    go_wp2
    go_ret
    exact ⟨rfl, (Mod.refl _ w).alloc _⟩
  by_cases h9 : born ≤ 1125899906842624
  case neg =>
    obtain rfl : r = false := hF fun h => h9 h.2.2.2.2.2.2.2.2.2
    clear hT hF
    go_enter Tryz.func129, Tryz.ntmps129
    go_wp2
    go_ret
    exact ⟨rfl, (Mod.refl _ w).alloc _⟩
  obtain rfl : r = true := hT ⟨h0, h1, h2, h3, h4, h5, h6, h7, h8, h9⟩
  clear hT hF
  go_enter Tryz.func129, Tryz.ntmps129
  go_wp2
  go_ret
  exact ⟨rfl, (Mod.refl _ w).alloc _⟩
end Go.Proofs.YtigkndbkaagboaaGreatDoor
