/- mizzenlaw20.PeerNothing's walk. -/
import Derived.Test.YtddnlbkocmpffaaGreatZPeeA
import Derived.Test.YtddnlbkocmpffaaGreatZOpenI
namespace Go.Proofs.YtddnlbkocmpffaaGreat
open Go.RowKit Go.ChangeShapes Go.WideShapes
set_option linter.unusedVariables false
set_option maxHeartbeats 4000000
set_option maxRecDepth 100000
theorem findNil (id : Int) (w : World) : Calls Tryz.prog 23 #[.pointer none, .int .u64 id] w fun e w' => e = .returned (.tuple #[.int .i64 0, .bool false]) ∧ w = w' := by
  go_enter Tryz.func23, Tryz.ntmps23
  go_wp2
  go_ret2
  exact ⟨rfl, rfl⟩
theorem getNil (id : Int) (w : World) : Calls Tryz.prog 6 #[.pointer none, .int .u64 id] w fun e w' => e = .returned (.tuple #[.agg #[.int .u64 0, .int .i64 0, .slice none 0 0, .int .i64 0, .bool false], .bool false]) ∧ Mod NoB w w' := by
  have HM := Lib.hid ((Mod.refl NoB w).alloc (.cells #[.int .u64 0, .int .i64 0, .slice none 0 0, .int .i64 0, .bool false] 31))
  go_enter Tryz.func6, Tryz.ntmps6
  go_wp2_with fail
  refine (findNil _ _).mono ?_
  rintro e w2 ⟨rfl, rfl⟩
  go_wp2_with fail
  exact bodyPost_ret (v := .tuple #[.agg #[.int .u64 0, .int .i64 0, .slice none 0 0, .int .i64 0, .bool false], .bool false]) (by simp [results, Tryz.results6, go_sem]) rfl ⟨rfl, HM.out⟩
theorem endNil (id : Int) (w : World) : Calls Tryz.prog 10 #[.pointer none, .int .u64 id, .int .i64 2] w fun e w' => e = .returned (.int .i64 5) ∧ w = w' := by
  go_enter Tryz.func10, Tryz.ntmps10
  go_wp2_with fail
  refine (findNil _ _).mono ?_
  rintro e w2 ⟨rfl, rfl⟩
  go_wp2_with fail
  go_ret
  exact ⟨rfl, rfl⟩
theorem sforgetNil (id : Int) (w : World) : Calls Tryz.prog 11 #[.pointer none, .int .u64 id] w fun e w' => e = .returned (.int .i64 5) ∧ w = w' := by
  go_enter Tryz.func11, Tryz.ntmps11
  go_wp2_with fail
  refine (findNil _ _).mono ?_
  rintro e w2 ⟨rfl, rfl⟩
  go_wp2_with fail
  go_ret
  exact ⟨rfl, rfl⟩
theorem openNil (w : World) : Calls Tryz.prog 12 #[.pointer none] w fun e w' => e = .returned (.slice none 0 0) ∧ w = w' := by
  go_enter Tryz.func12, Tryz.ntmps12
  go_wp2
  go_ret
  exact ⟨rfl, rfl⟩
theorem lowestNil (dst : Int) (w : World) : Calls Tryz.prog 13 #[.pointer none, .int .i64 dst] w fun e w' => e = .returned (.int .u64 1) ∧ Mod NoB w w' := by
  have HM := Lib.hid ((Mod.refl NoB w).alloc (.cells #[.int .i64 dst] 3))
  go_enter Tryz.func13, Tryz.ntmps13
  go_wp2
  go_ret
  exact ⟨rfl, HM.out⟩
theorem slenNil (w : World) : Calls Tryz.prog 14 #[.pointer none] w fun e w' => e = .returned (.int .i64 0) ∧ w = w' := by
  go_enter Tryz.func14, Tryz.ntmps14
  go_wp2
  go_ret
  exact ⟨rfl, rfl⟩
theorem bufNil (src id : Int) (w : World) : Calls Tryz.prog 30 #[.pointer none, .int .i64 src, .int .u64 id] w fun e w' => e = .returned (.tuple #[.pointer none, .bool false]) ∧ w = w' := by
  go_enter Tryz.func30, Tryz.ntmps30
  go_wp2_with fail
  refine (hasNil _ _).mono ?_
  rintro e w2 ⟨rfl, rfl⟩
  go_wp2_with fail
  go_ret2
  exact ⟨rfl, rfl⟩
theorem totalNil (w : World) : Calls Tryz.prog 31 #[.pointer none] w fun e w' => e = .returned (.int .i64 0) ∧ w = w' := by
  go_enter Tryz.func31, Tryz.ntmps31
  go_wp2
  go_ret
  exact ⟨rfl, rfl⟩
theorem leftNil (w : World) : Calls Tryz.prog 32 #[.pointer none] w fun e w' => e = .returned (.int .i64 0) ∧ w = w' := by
  go_enter Tryz.func32, Tryz.ntmps32
  go_wp2
  go_ret
  exact ⟨rfl, rfl⟩
theorem haveNil (src id : Int) (w : World) : Calls Tryz.prog 9 #[.pointer none, .int .i64 src, .int .u64 id] w fun e w' => e = .returned (.tuple #[.int .i64 0, .int .i64 0, .bool false]) ∧ Mod NoB w w' := by
  go_enter Tryz.func9, Tryz.ntmps9
  go_wp2_with fail
  refine (bufNil _ _ _).mono ?_
  rintro e w2 ⟨rfl, rfl⟩
  go_wp2_with fail
  refine (totalNil _).mono ?_
  rintro e w2 ⟨rfl, rfl⟩
  go_wp2_with fail
  refine (leftNil _).mono ?_
  rintro e w2 ⟨rfl, rfl⟩
  go_wp2_with fail
  refine (totalNil _).mono ?_
  rintro e w2 ⟨rfl, rfl⟩
  go_wp2_with fail
  go_ret3
  exact ⟨rfl, Mod.refl _ _⟩
theorem retireNil (src id : Int) (w : World) : Calls Tryz.prog 15 #[.pointer none, .int .i64 src, .int .u64 id] w fun e w' => e = .returned (.int .i64 0) ∧ w = w' := by
  go_enter Tryz.func15, Tryz.ntmps15
  go_wp2_with fail
  refine (hasNil _ _).mono ?_
  rintro e w2 ⟨rfl, rfl⟩
  go_wp2_with fail
  go_ret
  exact ⟨rfl, rfl⟩
theorem endedNil (src id : Int) (w : World) : Calls Tryz.prog 16 #[.pointer none, .int .i64 src, .int .u64 id] w fun e w' => e = .returned (.bool false) ∧ w = w' := by
  go_enter Tryz.func16, Tryz.ntmps16
  go_wp2_with fail
  refine (hasNil _ _).mono ?_
  rintro e w2 ⟨rfl, rfl⟩
  go_wp2_with fail
  go_ret
  exact ⟨rfl, rfl⟩
theorem rlenNil (w : World) : Calls Tryz.prog 17 #[.pointer none] w fun e w' => e = .returned (.int .i64 0) ∧ w = w' := by
  go_enter Tryz.func17, Tryz.ntmps17
  go_wp2
  go_ret
  exact ⟨rfl, rfl⟩
theorem open_peerNothing_data {H : Type} {enc : TypeId × Value → H} {w : World} {v : Value} {d : DataW H} {p : List MemPlace}
    (hv : Value.okWide Tryz.prog w .any 0 23 v) (h : DataW.Trod enc Tryz.prog w 0 (fun _ => true) true 23 v d p) : ∃ n : Nat, (n : Int) ≤ 9223372036854775807 ∧ ∃ A c, v = .slice A n c := by
  obtain ⟨xs, hh, -, hl⟩ := open_has Tryz.underlying23 Tryz.underlying5 (by kernel_rfl) hv h
  obtain ⟨A, c, e, -⟩ := hh.form
  exact ⟨xs.length, by omega, A, c, e⟩
theorem walk_peerNothing (w : World) (dst : Int) (hd : (Lit.int .i64 dst).wf = true) (id : Int) (hi : (Lit.int .u64 id).wf = true) {v : Value} (n : Nat) (hv : (n : Int) ≤ 9223372036854775807 ∧ ∃ A c, v = .slice A n c) :
    Calls Tryz.prog 3 #[.int .i64 dst, .int .u64 id, v] w fun e w' => e = .returned (.bool true) ∧ Below w.heap.size w w' := by
  have hi0 := (bounds_u64 hi).1
  obtain ⟨hn, A, c, rfl⟩ := hv
  clear hd hi
  by_cases hbig : 100 < n
  · have hb : 100 < (n : Int) := by omega
    clear hbig
    go_enter Tryz.func3, Tryz.ntmps3
    go_wp2_with fail
    refine (awakeW _).mono ?_
    rintro e w2 ⟨rfl, m2⟩
    have HM := Lib.hid m2
    clear m2
    go_wp2_with fail
    go_ret
    exact ⟨rfl, HM.out.below⟩
  · have hb : ¬ 100 < (n : Int) := by omega
    clear hbig
    have hcases : (∃ x y : Int, (x = 1 ∨ x = 4) ∧ (y = 1 ∨ y = 4) ∧ Hid (∀ W, Calls Tryz.prog 5 #[.pointer none, .int .i64 dst, .slice A n c] W fun e w' => e = .returned (.tuple #[.int .u64 0, .int .i64 x]) ∧ W = w') ∧ Hid (∀ W, Calls Tryz.prog 7 #[.pointer none, .int .i64 dst, .int .u64 id, .int .i64 n, .int .i64 0, .slice A n c] W fun e w' => e = .returned (.tuple #[.int .i64 0, .bool false, .int .i64 y]) ∧ W = w') ∧
        ((dst < 0 ∧ x = 1 ∧ y = 1) ∨ (¬ dst < 0 ∧ 7 < dst ∧ x = 1 ∧ y = 1) ∨ (¬ dst < 0 ∧ ¬ 7 < dst ∧ (id == 0) = true ∧ x = 4 ∧ y = 1) ∨ (¬ dst < 0 ∧ ¬ 7 < dst ∧ (id == 0) = false ∧ 1152921504606846976 < id ∧ x = 4 ∧ y = 1) ∨ (¬ dst < 0 ∧ ¬ 7 < dst ∧ (id == 0) = false ∧ ¬ 1152921504606846976 < id ∧ x = 4 ∧ y = 4))) := by
      by_cases h1 : dst < 0 ∨ 7 < dst
      · refine ⟨1, 1, .inl rfl, .inl rfl, Lib.hid (fun W => submitArg _ dst A n c W (by omega)), Lib.hid (fun W => dataArg _ dst id n 0 A n c W (by omega) (by omega)), ?_⟩
        by_cases h2 : dst < 0
        · exact .inl ⟨h2, rfl, rfl⟩
        · exact .inr (.inl ⟨h2, by omega, rfl, rfl⟩)
      · have hsn := fun W => submitNil dst A n c W (by omega)
        by_cases h2 : id = 0
        · exact ⟨4, 1, .inr rfl, .inl rfl, Lib.hid hsn, Lib.hid (fun W => dataArg _ dst id n 0 A n c W (by omega) (by omega)), .inr (.inr (.inl ⟨by omega, by omega, by rw [h2]; rfl, rfl, rfl⟩))⟩
        · have h2b : (id == 0) = false := by rw [beq_eq_false_iff_ne]; exact h2
          by_cases h3 : 1152921504606846976 < id
          · exact ⟨4, 1, .inr rfl, .inl rfl, Lib.hid hsn, Lib.hid (fun W => dataArg _ dst id n 0 A n c W (by omega) (by omega)), .inr (.inr (.inr (.inl ⟨by omega, by omega, h2b, h3, rfl, rfl⟩)))⟩
          · obtain ⟨i, rfl⟩ : ∃ i : Nat, dst = i := ⟨dst.toNat, by omega⟩
            exact ⟨4, 4, .inr rfl, .inr rfl, Lib.hid hsn, Lib.hid (fun W => dataNil i (by omega) id (by omega) (by omega) n 0 A n c W (by omega) hn), .inr (.inr (.inr (.inr ⟨by omega, by omega, h2b, h3, rfl, rfl⟩)))⟩
    obtain ⟨x, y, -, -, HSUB, HDAT, hsp⟩ := hcases
    rcases hsp with ⟨h1, rfl, rfl⟩ | ⟨h1, h2, rfl, rfl⟩ | ⟨h1, h2, h3, rfl, rfl⟩ | ⟨h1, h2, h3, h4, rfl, rfl⟩ | ⟨h1, h2, h3, h4, rfl, rfl⟩
    all_goals
      go_enter Tryz.func3, Tryz.ntmps3
      go_wp2_with fail
      refine (HSUB.out _).mono ?_
      rintro e w2 ⟨rfl, rfl⟩
      go_wp2_with fail
      refine (getNil _ _).mono ?_
      rintro e w2 ⟨rfl, m2⟩
      have HM2 := Lib.hid m2
      clear m2
      go_wp2_with fail
      refine (HDAT.out _).mono ?_
      rintro e w3 ⟨rfl, rfl⟩
      go_wp2_with fail
      refine (pollNil _).mono ?_
      rintro e w4 ⟨rfl, m4⟩
      have HM4 := Lib.hid ((HM2.out.alloc _).trans m4 (fun _ _ e => e))
      clear m4
      go_wp2_with fail
      refine (haveNil _ _ _).mono ?_
      rintro e w5 ⟨rfl, m5⟩
      have HM5 := Lib.hid ((HM4.out.alloc _).trans m5 (fun _ _ e => e))
      clear m5
      go_wp2_with fail
      refine (endNil _ _).mono ?_
      rintro e w6 ⟨rfl, rfl⟩
      go_wp2_with fail
      refine (sforgetNil _ _).mono ?_
      rintro e w6 ⟨rfl, rfl⟩
      go_wp2_with fail
      refine (openNil _).mono ?_
      rintro e w6 ⟨rfl, rfl⟩
      go_wp2_with fail
      refine (lowestNil _ _).mono ?_
      rintro e w6 ⟨rfl, m6⟩
      have HM6 := Lib.hid (HM5.out.trans m6 (fun _ _ e => e))
      clear m6
      go_wp2_with fail
      refine (slenNil _).mono ?_
      rintro e w7 ⟨rfl, rfl⟩
      go_wp2_with fail
      refine (retireNil _ _ _).mono ?_
      rintro e w7 ⟨rfl, rfl⟩
      go_wp2_with fail
      refine (endedNil _ _ _).mono ?_
      rintro e w7 ⟨rfl, rfl⟩
      go_wp2_with fail
      refine (rlenNil _).mono ?_
      rintro e w7 ⟨rfl, rfl⟩
      go_wp2_with fail
      refine (waitingNil _).mono ?_
      rintro e w7 ⟨rfl, rfl⟩
      go_wp2_with fail
      refine (awakeW _).mono ?_
      rintro e w8 ⟨rfl, m8⟩
      have HM8 := Lib.hid (HM6.out.trans m8 (fun _ _ e => e))
      clear m8
      go_wp2_with fail
      go_ret
      exact ⟨rfl, HM8.out.below⟩
end Go.Proofs.YtddnlbkocmpffaaGreat
