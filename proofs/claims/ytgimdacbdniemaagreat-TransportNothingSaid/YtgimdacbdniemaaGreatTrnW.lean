/- mizzenlaw25.TransportNothing's walk: a host that is none. -/
import Derived.Test.YtgimdacbdniemaaGreatTrnA
import Derived.Test.YtgimdacbdniemaaGreatOpenI
import Derived.ProofKit
import Derived.OpenShut
import Derived.ShutString
import Derived.ChangeOld
namespace Go.Proofs.YtgimdacbdniemaaGreat
open Go.RowKit Go.ChangeShapes Go.WideShapes
set_option linter.unusedVariables false
set_option maxHeartbeats 4000000
set_option maxRecDepth 100000
theorem noneW (w : World) : Calls Tryz.prog 23 #[.pointer none] w fun e w' => e = .returned (.bool true) ∧ w = w' := by
  go_enter Tryz.func23, Tryz.ntmps23
  go_wp2
  go_ret
  exact ⟨rfl, rfl⟩
theorem tickN (w : World) : Calls Tryz.prog 5 #[.pointer none] w fun e w' => e = .returned (.tuple #[]) ∧ w = w' := by
  go_enter Tryz.func5, Tryz.ntmps5
  go_wp2_with fail
  refine (noneW _).mono ?_
  rintro e w2 ⟨rfl, rfl⟩
  go_wp2
  go_end0
  exact ⟨rfl, rfl⟩
theorem submitN (dst : Int) (b : Value) (w : World) : Calls Tryz.prog 6 #[.pointer none, .int .i64 dst, b] w fun e w' => e = .returned (.tuple #[.int .u64 0, .int .i64 1]) ∧ w = w' := by
  go_enter Tryz.func6, Tryz.ntmps6
  go_wp2_with fail
  refine (noneW _).mono ?_
  rintro e w2 ⟨rfl, rfl⟩
  go_wp2
  go_ret2
  exact ⟨rfl, rfl⟩
theorem cancelN (id : Int) (w : World) : Calls Tryz.prog 10 #[.pointer none, .int .u64 id] w fun e w' => e = .returned (.int .i64 1) ∧ w = w' := by
  go_enter Tryz.func10, Tryz.ntmps10
  go_wp2_with fail
  refine (noneW _).mono ?_
  rintro e w2 ⟨rfl, rfl⟩
  go_wp2
  go_ret
  exact ⟨rfl, rfl⟩
theorem statusN (id : Int) (w : World) : Calls Tryz.prog 11 #[.pointer none, .int .u64 id] w fun e w' => e = .returned (.int .i64 0) ∧ w = w' := by
  go_enter Tryz.func11, Tryz.ntmps11
  go_wp2_with fail
  refine (noneW _).mono ?_
  rintro e w2 ⟨rfl, rfl⟩
  go_wp2
  go_ret
  exact ⟨rfl, rfl⟩
theorem pollN (w : World) : Calls Tryz.prog 7 #[.pointer none] w fun e w' => e = .returned (.tuple #[.agg #[.int .i64 0, .int .u64 0, .slice none 0 0], .bool false]) ∧ Below w.heap.size w w' := by
  have HB := Lib.hid ((Below.refl _ w).alloc (Nat.le_refl _) (.cells #[.int .i64 0, .int .u64 0, .slice none 0 0] 30))
  go_enter Tryz.func7, Tryz.ntmps7
  go_wp2_with fail
  refine (noneW _).mono ?_
  rintro e w2 ⟨rfl, rfl⟩
  go_wp2_with fail
  exact bodyPost_ret (v := .tuple #[.agg #[.int .i64 0, .int .u64 0, .slice none 0 0], .bool false]) (by simp [results, Tryz.results7, go_sem]) rfl ⟨rfl, HB.out⟩
theorem outN (w : World) : Calls Tryz.prog 8 #[.pointer none] w fun e w' => e = .returned (.tuple #[.slice none 0 0, .bool false]) ∧ w = w' := by
  go_enter Tryz.func8, Tryz.ntmps8
  go_wp2_with fail
  refine (noneW _).mono ?_
  rintro e w2 ⟨rfl, rfl⟩
  go_wp2
  go_ret2
  exact ⟨rfl, rfl⟩
theorem heldN (w : World) : Calls Tryz.prog 9 #[.pointer none] w fun e w' => e = .returned (.tuple #[.int .i64 0, .int .i64 0]) ∧ w = w' := by
  go_enter Tryz.func9, Tryz.ntmps9
  go_wp2_with fail
  refine (noneW _).mono ?_
  rintro e w2 ⟨rfl, rfl⟩
  go_wp2
  go_ret2
  exact ⟨rfl, rfl⟩
theorem inN (b : Value) (w : World) : Calls Tryz.prog 12 #[.pointer none, b] w fun e w' => e = .returned (.bool false) ∧ w = w' := by
  go_enter Tryz.func12, Tryz.ntmps12
  go_wp2_with fail
  refine (noneW _).mono ?_
  rintro e w2 ⟨rfl, rfl⟩
  go_wp2
  go_ret
  exact ⟨rfl, rfl⟩
theorem badN (w : World) : Calls Tryz.prog 13 #[.pointer none] w fun e w' => e = .returned (.int .i64 0) ∧ w = w' := by
  go_enter Tryz.func13, Tryz.ntmps13
  go_wp2
  go_ret
  exact ⟨rfl, rfl⟩
theorem nowN (w : World) : Calls Tryz.prog 14 #[.pointer none] w fun e w' => e = .returned (.int .i64 0) ∧ w = w' := by
  go_enter Tryz.func14, Tryz.ntmps14
  go_wp2_with fail
  refine (noneW _).mono ?_
  rintro e w2 ⟨rfl, rfl⟩
  go_wp2
  go_ret
  exact ⟨rfl, rfl⟩
theorem idleN (w : World) : Calls Tryz.prog 15 #[.pointer none] w fun e w' => e = .returned (.bool true) ∧ w = w' := by
  go_enter Tryz.func15, Tryz.ntmps15
  go_wp2_with fail
  refine (noneW _).mono ?_
  rintro e w2 ⟨rfl, rfl⟩
  go_wp2
  go_ret
  exact ⟨rfl, rfl⟩
theorem open_transportNothing_b {H : Type} {enc : TypeId × Value → H} {w : World} {v : Value} {d : DataW H} {p : List MemPlace}
    (hv : Value.okWide Tryz.prog w .any 0 23 v) (h : DataW.Trod enc Tryz.prog w 0 (fun _ => true) true 23 v d p) : ∃ n : Nat, (n : Int) ≤ 9223372036854775807 ∧ ∃ A c, v = .slice A n c := by
  obtain ⟨xs, hh, -, hl⟩ := open_has Tryz.underlying23 Tryz.underlying5 (by kernel_rfl) hv h
  obtain ⟨A, c, e, -⟩ := hh.form
  exact ⟨xs.length, by omega, A, c, e⟩
/-- The law's walk. -/
theorem walk_transportNothing (w : World) (dst : Int) (hd : (Lit.int .i64 dst).wf = true) (id : Int) (hi : (Lit.int .u64 id).wf = true) {v : Value} (n : Nat) (hv : (n : Int) ≤ 9223372036854775807 ∧ ∃ A c, v = .slice A n c) :
    Calls Tryz.prog 3 #[.int .i64 dst, .int .u64 id, v] w fun e w' => e = .returned (.bool true) ∧ Below w.heap.size w w' := by
  obtain ⟨hn, A, c, rfl⟩ := hv
  go_enter Tryz.func3, Tryz.ntmps3
  by_cases hl : 1000 < n
  · have e1 : decide ((n : Int) > 1000) = true := by simp; omega
    go_wp2_with fail
    refine (awakeT _).mono ?_
    rintro e w2 ⟨rfl, bel⟩
    go_wp2
    go_ret
    exact ⟨rfl, bel⟩
  · have e1 : decide ((n : Int) > 1000) = false := by simp; omega
    go_wp2_with fail
    refine (tickN _).mono ?_
    rintro e w2 ⟨rfl, rfl⟩
    go_wp2_with fail
    refine (submitN _ _ _).mono ?_
    rintro e w2 ⟨rfl, rfl⟩
    go_wp2_with fail
    refine (pollN _).mono ?_
    rintro e w3 ⟨rfl, b3⟩
    have HB := Lib.hid (b3.alloc b3.size (.cells #[.int .i64 0, .int .u64 0, .slice none 0 0] 30))
    have HS := b3.size
    clear b3
    go_wp2_with fail
    refine (outN _).mono ?_
    rintro e w2 ⟨rfl, rfl⟩
    go_wp2_with fail
    refine (heldN _).mono ?_
    rintro e w2 ⟨rfl, rfl⟩
    go_wp2_with fail
    refine (cancelN _ _).mono ?_
    rintro e w2 ⟨rfl, rfl⟩
    go_wp2_with fail
    refine (statusN _ _).mono ?_
    rintro e w2 ⟨rfl, rfl⟩
    go_wp2_with fail
    refine (inN _ _).mono ?_
    rintro e w2 ⟨rfl, rfl⟩
    go_wp2_with fail
    refine (badN _).mono ?_
    rintro e w2 ⟨rfl, rfl⟩
    go_wp2_with fail
    refine (nowN _).mono ?_
    rintro e w2 ⟨rfl, rfl⟩
    go_wp2_with fail
    refine (idleN _).mono ?_
    rintro e w2 ⟨rfl, rfl⟩
    go_wp2_with fail
    refine (awakeT _).mono ?_
    rintro e w5 ⟨rfl, bel⟩
    have HE := Lib.hid (HB.out.trans (bel.mono (by simp; omega)))
    clear bel
    go_wp2_with fail
    go_ret
    exact ⟨rfl, HE.out⟩
end Go.Proofs.YtgimdacbdniemaaGreat
