/- strconv.FormatUint at base ten. -/
import Derived.Test.YtcandpiafgicbaaGreatDoorTeS
import Derived.Lib.AppendIntMem
namespace Go.Proofs.YtcandpiafgicbaaGreatDoor
open Go.RowKit Go.Sort
set_option linter.unusedVariables false
set_option maxHeartbeats 4000000
set_option maxRecDepth 100000
theorem formatUI (u : Nat) (hu : u < 18446744073709551616) (w : World) (hp : Pow w) :
    Calls Tryz.prog 130 #[.int .u64 u, .int .i64 10] w fun e w' => e = .returned (.string (tb (Lib.decDigits u))) ∧ Mod (fun _ => False) w w' := by
  by_cases hs : u < 100
  · have hz : (u : Int) < 100 := by omega
    have hc : IntKind.i64.wrap (u : Int) = u := by rw [IntKind.wrap_i64]; omega
    go_enter Tryz.func130, Tryz.ntmps130
    go_wp2_with fail
    refine (Tryz.internal_strconv_small u hs w).mono ?_
    rintro e w1 ⟨rfl, rfl⟩
    go_wp2_with fail
    go_ret
    exact ⟨rfl, Mod.refl _ _⟩
  · have hz : ¬ (u : Int) < 100 := by omega
    have hnd20 : Lib.nDigits u ≤ 20 := by have := Lib.numDigits_eq u (by omega) hu; split at this <;> omega
    have hal : Tryz.prog.arrayLen 275 = 24 := by kernel_rfl
    have hsl1 : ∀ W, (Instr.sliceAt 275 (.pointer (some ⟨w.heap.size, 0, none⟩)) none (some (.int .i64 (Lib.nDigits u : Int))) none).run Tryz.prog W = .ok (.slice (some ⟨w.heap.size, 0, none⟩) (Lib.nDigits u) 24) W := fun W => by
      rw [run_sliceAt_array_h W 275 ⟨w.heap.size, 0, none⟩ (by kernel_rfl) .i64 (Lib.nDigits u : Int) (by omega) (by rw [hal]; omega)]
      rw [show Tryz.prog.elem 275 = 5 by kernel_rfl, hal]
      go_simp
    have hH0 := Lib.holds_zero0 w 275 (Lib.nDigits u) (by omega)
    have hfmt := Tryz.internal_strconv_formatBase10 w.heap.size 0 24 u (Array.replicate (Lib.nDigits u) 0) (w.alloc (.cells Lib.zeros24 275)) hH0 (by rw [Array.size_replicate]; exact Lib.lt_pow_nDigits u) hu (by rw [Array.size_replicate]; omega)
    rw [Array.size_replicate] at hfmt
    have hdig := Any.internal_strconv_numDigits { Tryz.laysM171 with } u (by omega) hu (w.alloc (.cells Lib.zeros24 275)) (Lib.tabIs_alloc hp _)
    have HH0 := Lib.hid hH0
    have HM := Lib.hid ((Mod.refl (fun _ => False) w).alloc (.cells Lib.zeros24 275))
    have HDG := Lib.hid hdig
    have HFM := Lib.hid hfmt
    clear hH0 hal hfmt hdig
    go_enter Tryz.func130, Tryz.ntmps130
    go_wp2_with fail
    refine HDG.out.mono ?_
    rintro e w1 ⟨rfl, rfl⟩
    go_wp2_with fail
    refine HFM.out.mono ?_
    rintro e w1 ⟨rfl, k, v', dk, rfl, hF⟩
    have hcv : (convert 37 9 (.slice (some ⟨w.heap.size, 0, none⟩) (Lib.nDigits u) 24)).run Tryz.prog ((putRow (fun (b : UInt8) => Value.int .u8 (b.toNat : Int)) (w.alloc (.cells Lib.zeros24 275)) w.heap.size 0 dk).drewN k) = .ok (.string (tb (Lib.decDigits u))) ((putRow (fun (b : UInt8) => Value.int .u8 (b.toNat : Int)) (w.alloc (.cells Lib.zeros24 275)) w.heap.size 0 dk).drewN k) := by
      have h := run_convert_bytes_back (P := Tryz.prog) ((putRow (fun (b : UInt8) => Value.int .u8 (b.toNat : Int)) (w.alloc (.cells Lib.zeros24 275)) w.heap.size 0 dk).drewN k) 37 9 5 ⟨w.heap.size, 0, none⟩ 24 (Lib.decDigits u) Tryz.underlying37 Tryz.underlying5 Tryz.underlying9 (fun j hj => by
        rw [Lib.row_is_numeral hF j hj, Lib.add_plain, World.cell?_drewN]
        exact cell?_putRow (fun (b : UInt8) => Value.int .u8 (b.toNat : Int)) _ w.heap.size 0 _ dk HH0.out (by rw [hF.size, Array.size_replicate]) j (by rw [hF.size]; rw [Lib.decDigits_length] at hj; exact hj))
      rw [Lib.decDigits_length] at h
      exact h
    have hfin : ∃ os, (putRow (fun (b : UInt8) => Value.int .u8 (b.toNat : Int)) (w.alloc (.cells Lib.zeros24 275)) w.heap.size 0 dk).drewN k = grow (w.drewN k) os := Lib.fin_at w (.cells Lib.zeros24 275) dk k 0
    have HFIN := Lib.hid hfin
    clear hfin hF
    go_wp2_with fail
    go_ret
    obtain ⟨os, eo⟩ := HFIN.out
    refine ⟨rfl, ?_⟩
    rw [eo]
    exact Mod.ofBelow (Lib.below_grow _ _ (Nat.le_refl _) _ _)
theorem formatUW (u : Nat) (hu : u < 18446744073709551616) (w : World) (hp : Pow w) :
    Calls Tryz.prog 94 #[.int .u64 u, .int .i64 10] w fun e w' => e = .returned (.string (tb (Lib.decDigits u))) ∧ Mod (fun _ => False) w w' := by
  have HF := Lib.hid (formatUI u hu w hp)
  go_enter Tryz.func94, Tryz.ntmps94
  go_wp2_with fail
  refine HF.out.mono ?_
  rintro e w1 ⟨rfl, m⟩
  go_wp2_with fail
  go_ret
  exact ⟨rfl, m⟩
end Go.Proofs.YtcandpiafgicbaaGreatDoor
