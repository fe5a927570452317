/- Grants that are refused. -/
import Derived.Test.YtigkndbkaagboaaGreatDoorSrH
namespace Go.Proofs.YtigkndbkaagboaaGreatDoor
open Go.RowKit Go.Sort
set_option linter.unusedVariables false
set_option linter.unusedSimpArgs false
set_option maxHeartbeats 4000000
set_option maxRecDepth 100000
/-- What may be asked. -/
def askG (k budget share : Int) : Prop := 1 ≤ k ∧ k ≤ 8 ∧ 0 ≤ budget ∧ budget ≤ 1099511627776 ∧ 0 ≤ share ∧ share ≤ budget
theorem grantsNo (v : Value) (k budget share : Int) (w : World) (h : ¬ askG k budget share) :
    Calls Tryz.prog 8 #[v, .int .i64 k, .int .i64 budget, .int .i64 share] w fun e w' => e = .returned (.tuple #[.slice none 0 0, .int .i64 1]) ∧ w = w' := by
  have H := Lib.hid h
  clear h
  go_enter Tryz.func8, Tryz.ntmps8
  by_cases c1 : k < 1
  · go_wp2_with fail
    go_ret2
    exact ⟨rfl, rfl⟩
  by_cases c2 : 8 < k
  · go_wp2_with fail
    go_ret2
    exact ⟨rfl, rfl⟩
  by_cases c3 : budget < 0
  · go_wp2_with fail
    go_ret2
    exact ⟨rfl, rfl⟩
  by_cases c4 : 1099511627776 < budget
  · go_wp2_with fail
    go_ret2
    exact ⟨rfl, rfl⟩
  by_cases c5 : share < 0
  · go_wp2_with fail
    go_ret2
    exact ⟨rfl, rfl⟩
  by_cases c6 : budget < share
  · go_wp2_with fail
    go_ret2
    exact ⟨rfl, rfl⟩
  exact absurd ⟨by omega, by omega, by omega, by omega, by omega, by omega⟩ H.out
theorem refGrantsNo (v : Value) (k budget share : Int) (w : World) (h : ¬ askG k budget share) :
    Calls Tryz.prog 9 #[v, .int .i64 k, .int .i64 budget, .int .i64 share] w fun e w' => e = .returned (.tuple #[.slice none 0 0, .int .i64 1]) ∧ w = w' := by
  have H := Lib.hid h
  clear h
  go_enter Tryz.func9, Tryz.ntmps9
  by_cases c1 : k < 1
  · go_wp2_with fail
    go_ret2
    exact ⟨rfl, rfl⟩
  by_cases c2 : 8 < k
  · go_wp2_with fail
    go_ret2
    exact ⟨rfl, rfl⟩
  by_cases c3 : budget < 0
  · go_wp2_with fail
    go_ret2
    exact ⟨rfl, rfl⟩
  by_cases c4 : 1099511627776 < budget
  · go_wp2_with fail
    go_ret2
    exact ⟨rfl, rfl⟩
  by_cases c5 : share < 0
  · go_wp2_with fail
    go_ret2
    exact ⟨rfl, rfl⟩
  by_cases c6 : budget < share
  · go_wp2_with fail
    go_ret2
    exact ⟨rfl, rfl⟩
  exact absurd ⟨by omega, by omega, by omega, by omega, by omega, by omega⟩ H.out
end Go.Proofs.YtigkndbkaagboaaGreatDoor
