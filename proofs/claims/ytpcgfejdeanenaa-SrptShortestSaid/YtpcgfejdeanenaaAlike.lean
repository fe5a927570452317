/- Two lists of integers that are alike. -/
import Derived.Test.YtpcgfejdeanenaaRow2
import Derived.Test.YtpcgfejdeanenaaRows
import Derived.Test.YtpcgfejdeanenaaReg
import Derived.Lib.Hide
import Derived.Outline
import Derived.Deep.QuietTactic
import Derived.BigQuiet
namespace Go.Proofs.Ytpcgfejdeanenaa
open Go.RowKit
set_option linter.unusedVariables false
set_option maxHeartbeats 2000000
set_option maxRecDepth 100000
theorem Has.atI {w : World} {B : Nat} {A : Option Addr} {n cap : Nat} {zs : List Int} (h : Has w B 1 encI (.slice A n cap) zs) {i : Nat} {x : Int} (hi : zs[i]? = some x) :
    ∃ g off, A = some ⟨g, off, none⟩ ∧ g < B ∧ w.cell? ⟨g, off + i, none⟩ = some (.int .i64 x) := by
  obtain ⟨g, off, h1, h2, h3⟩ := h.at_ encI_len hi
  refine ⟨g, off, h1, h2, ?_⟩
  have := h3 0 (by omega)
  rw [Nat.mul_one, Nat.add_zero] at this
  exact this
theorem alikeW (v u : Value) (zs : List Int) (B C : Nat) (w : World) (hv : Has w B 1 encI v zs) (hu : Has w C 1 encI u zs) (hl : zs.length ≤ 1000000) :
    Calls Try.prog 13 #[v, u] w fun e w' => e = .returned (.bool true) ∧ Mod (fun _ => False) w w' := by
  obtain ⟨A1, c1, rfl, _⟩ := hv.form
  obtain ⟨A2, c2, rfl, _⟩ := hu.form
  have HV := Lib.hid hv
  have HU := Lib.hid hu
  clear hv hu
  have e0 : ((zs.length : Int) != (zs.length : Int)) = false := by simp
  go_enter Try.func13, Try.ntmps13
  go_wp2_with fail
  go_loopw [5] (fun i wr => ∃ k nn : Nat, i = .int .i64 k ∧ k ≤ zs.length ∧ wr = w.drewN nn) (fun i _ => zs.length - (intOf i).toNat)
  case atStart => exact ⟨0, 0, rfl, by omega, rfl⟩
  case round =>
    obtain ⟨k, nn, rfl, hk, hwr⟩ := hrel
    subst hwr
    by_cases hkl : k < zs.length
    · obtain ⟨g, off, rfl, hg, hc⟩ := HV.out.atI (List.getElem?_eq_getElem hkl)
      obtain ⟨g', off', rfl, hg', hc'⟩ := HU.out.atI (List.getElem?_eq_getElem hkl)
      generalize zs[k]'hkl = z at *
      have hi0 : (0 : Int) ≤ (k : Int) := by omega
      have hi1 : (k : Int) < (zs.length : Int) := by omega
      have e1 : (z != z) = false := by simp
      go_wp2_with fail
      go_quiet (fail)
      go_wp2_with fail
      go_roundw
      case rel => exact ⟨k + 1, _, by go_num, by omega, rfl⟩
      case measure => simp [intOf]; omega
    · go_wp2
      go_ret
      exact ⟨rfl, (Mod.refl _ w).drewN nn⟩
end Go.Proofs.Ytpcgfejdeanenaa
