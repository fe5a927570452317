/- Closed facts of the program that every frame of this seat wants, each by itself: no function holds a go statement (by parts). -/
import Derived.Test.YtcandpiafgicbaaGreatDoorRows
import GoSem.ClaimGoes
import Derived.SevenTiedAt
namespace Go.Proofs.YtcandpiafgicbaaGreatDoor
open Go
theorem facMain : Tryz.pinned.checked.prog.mainIs = some (true, "4d0b4f137fea82e5f8003cbb7b77dfb61f49cf4911e5ae69c474555f7c5e27e4".toList) := by kernel_rfl
theorem facLooks : true = Tryz.pinned.checked.prog.looks [] := by kernel_rfl
theorem goes0 : ((List.range' 0 100).all fun g => ((Tryz.pinned.checked.prog.funcs[g]?).all fun fn => !fn.goes)) = true := by kernel_rfl
theorem goes1 : ((List.range' 100 100).all fun g => ((Tryz.pinned.checked.prog.funcs[g]?).all fun fn => !fn.goes)) = true := by kernel_rfl
theorem goes2 : ((List.range' 200 100).all fun g => ((Tryz.pinned.checked.prog.funcs[g]?).all fun fn => !fn.goes)) = true := by kernel_rfl
theorem goes3 : ((List.range' 300 100).all fun g => ((Tryz.pinned.checked.prog.funcs[g]?).all fun fn => !fn.goes)) = true := by kernel_rfl
theorem goes4 : ((List.range' 400 100).all fun g => ((Tryz.pinned.checked.prog.funcs[g]?).all fun fn => !fn.goes)) = true := by kernel_rfl
theorem goes5 : ((List.range' 500 100).all fun g => ((Tryz.pinned.checked.prog.funcs[g]?).all fun fn => !fn.goes)) = true := by kernel_rfl
theorem goesSz : Nat.ble Tryz.pinned.checked.prog.funcs.size 600 = true := by kernel_rfl
theorem noGoes {g : Nat} {fn : Func} (h : Tryz.pinned.checked.prog.funcs[g]? = some fn) : fn.goes = false := by
  have hs := Nat.le_of_ble_eq_true goesSz
  have hg : g < Tryz.pinned.checked.prog.funcs.size := by
    rcases Nat.lt_or_ge g Tryz.pinned.checked.prog.funcs.size with h' | h'
    · exact h'
    · rw [Array.getElem?_eq_none h'] at h; cases h
  have key : ∀ {a : Nat}, ((List.range' a 100).all fun g => ((Tryz.pinned.checked.prog.funcs[g]?).all fun fn => !fn.goes)) = true → a ≤ g → g < a + 100 → fn.goes = false := by
    intro a ha h1 h2
    have := List.all_eq_true.1 ha g (List.mem_range'_1.2 ⟨h1, h2⟩)
    rw [h] at this
    simpa using this
  by_cases g0 : g < 100
  · exact key goes0 (by omega) (by omega)
  by_cases g1 : g < 200
  · exact key goes1 (by omega) (by omega)
  by_cases g2 : g < 300
  · exact key goes2 (by omega) (by omega)
  by_cases g3 : g < 400
  · exact key goes3 (by omega) (by omega)
  by_cases g4 : g < 500
  · exact key goes4 (by omega) (by omega)
  · exact key goes5 (by omega) (by omega)
theorem goesNo (f : FuncId) : Tryz.pinned.checked.prog.goes f = false := by
  unfold Program.goes
  have e1 : ((Tryz.pinned.checked.prog.closure f).any fun g => (Tryz.pinned.checked.prog.funcs[g]?).any Func.goes) = false := by
    rw [List.any_eq_false]
    intro g _
    cases h : Tryz.pinned.checked.prog.funcs[g]? with
    | none => simp
    | some fn => simp [noGoes h]
  have e2 : Tryz.pinned.checked.prog.funcs.any Func.goes = false := by
    rw [Array.any_eq_false]
    intro i hi
    rw [noGoes (Array.getElem?_eq_getElem hi)]
    simp
  rw [e1, e2]
  simp
theorem facGoes (c : OpenClaim) (h : c.start = .entering) : false = c.goesBy Tryz.pinned.checked.prog := by
  unfold OpenClaim.goesBy Program.goesAt Program.goesFrom
  rw [h]
  cases hf : Tryz.pinned.checked.prog.funcNamed c.func with
  | none => rfl
  | some f => simp [goesNo f]
end Go.Proofs.YtcandpiafgicbaaGreatDoor
