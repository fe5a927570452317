/- A size's line, by the program and by the reference; what the document fixes. -/
import Derived.Test.YtodinfadheabpaaCutC
import Derived.Test.YtodinfadheabpaaCutX
namespace Go.Proofs.Ytodinfadheabpaa
open Go.RowKit Go.Shelf
set_option linter.unusedVariables false
set_option maxHeartbeats 4000000
set_option maxRecDepth 100000
/-- Of how many cuts the size is greater. -/
def cntZ (cuts : List Int) (size : Int) : Nat := (cuts.filter fun c => decide (c < size)).length
theorem cntZ_le (cuts : List Int) (size : Int) : cntZ cuts size ≤ cuts.length := List.length_filter_le _ _
theorem cntZ_take {cuts : List Int} {k : Nat} {c size : Int} (h : cuts[k]? = some c) : cntZ (cuts.take (k + 1)) size = cntZ (cuts.take k) size + (if c < size then 1 else 0) := by
  unfold cntZ
  rw [List.take_add_one, h]
  by_cases hc : c < size <;> simp [List.filter_append, hc]
theorem prioNone (s x : Int) (w : World) : Calls Try.prog 13 #[.pointer none, .int .i64 s, .int .i64 x] w fun e w' => e = .returned (.int .i64 0) ∧ w = w' := by
  go_enter Try.func13, Try.ntmps13
  go_wp2
  go_ret
  exact ⟨rfl, rfl⟩
theorem prioW (b : Nat) (g : Option Nat) (lev most s x : Int) (zs : List Int) (w : World) (m : Mt w b g lev most zs) (h1 : 1 ≤ lev) (h2 : lev ≤ 8) (hz : zs.length ≤ 1000) (hzb : ∀ z ∈ zs, 0 ≤ z ∧ z ≤ 1073741824) :
    Calls Try.prog 13 #[.pointer (some ⟨b, 0, none⟩), .int .i64 s, .int .i64 x] w fun e w' => e = .returned (.int .i64 (7 - cntZ (cutsZ lev (clampZ x 0 1073741824) (sortZ zs)) s)) ∧ Mod (fun _ => False) w w' := by
  have hC := cutsW b g lev most x zs w m h1 h2 hz hzb
  have hl := cutsZ_len lev (clampZ x 0 1073741824) (sortZ zs)
  generalize cutsZ lev (clampZ x 0 1073741824) (sortZ zs) = cuts at *
  have HC := Lib.hid hC
  have HL := Lib.hid hl
  have hl7 : cuts.length ≤ 7 := by omega
  clear hC hl
  go_enter Try.func13, Try.ntmps13
  go_wp2_with fail
  refine HC.out.mono ?_
  rintro e w1 ⟨v, rfl, hown, hm⟩
  obtain ⟨A, cap, rfl, hcap, _⟩ := hown.form
  have HOWN := Lib.hid hown
  have HM := Lib.hid hm
  clear hown hm
  go_wp2_with fail
  go_loop [7, 16] (fun p i => ∃ k : Nat, k ≤ cuts.length ∧ i = .int .i64 k ∧ p = .int .i64 (7 - cntZ (cuts.take k) s)) (fun _ i => cuts.length - (intOf i).toNat)
  case atStart => exact ⟨0, by omega, rfl, rfl⟩
  case round =>
    obtain ⟨k, hk, rfl, rfl⟩ := hrel
    have hcn := cntZ_le (cuts.take k) s
    have htl : (cuts.take k).length ≤ 7 := by rw [List.length_take]; omega
    by_cases hlt : k < cuts.length
    · have hc? := List.getElem?_eq_getElem hlt
      obtain ⟨g', off, rfl, _, hcell⟩ := HOWN.out.has.atI hc?
      have ht := cntZ_take (size := s) hc?
      generalize cuts[k]'hlt = c at *
      have HT := Lib.hid ht
      clear ht hc?
      generalize cntZ (cuts.take k) s = n at *
      by_cases hcs : c < s
      · go_wp2_with fail
        go_round
        case rel => exact ⟨k + 1, by omega, by go_num, by rw [HT.out, if_pos (by omega)]; exact congrArg (Value.int .i64) (by omega)⟩
        case measure => simp [intOf]; omega
      · go_wp2_with fail
        go_round
        case rel => exact ⟨k + 1, by omega, by go_num, by rw [HT.out, if_neg (by omega)]; exact congrArg (Value.int .i64) (by omega)⟩
        case measure => simp [intOf]; omega
    · have htk : cuts.take k = cuts := List.take_of_length_le (by omega)
      rw [htk]
      go_wp2_with fail
      go_ret
      exact ⟨rfl, HM.out⟩
theorem refPrioW (b : Nat) (lev most s x : Int) (zs : List Int) (w : World) (g0 : Option Nat) (m : Rm w b g0 lev most zs) (h1 : 1 ≤ lev) (h2 : lev ≤ 8) (hz : zs.length ≤ 1000) (hzb : ∀ z ∈ zs, 0 ≤ z ∧ z ≤ 1073741824) :
    Calls Try.prog 14 #[.pointer (some ⟨b, 0, none⟩), .int .i64 s, .int .i64 x] w fun e w' => e = .returned (.int .i64 (7 - cntZ (cutsZ lev (clampZ x 0 1073741824) (sortZ zs)) s)) ∧ Mod (fun _ => False) w w' := by
  have hC := refCutsW b lev most x zs w g0 m h1 h2 hz hzb
  have hl := cutsZ_len lev (clampZ x 0 1073741824) (sortZ zs)
  generalize cutsZ lev (clampZ x 0 1073741824) (sortZ zs) = cuts at *
  have HC := Lib.hid hC
  have HL := Lib.hid hl
  have hl7 : cuts.length ≤ 7 := by omega
  clear hC hl
  go_enter Try.func14, Try.ntmps14
  go_wp2_with fail
  refine HC.out.mono ?_
  rintro e w1 ⟨v, rfl, hown, hm⟩
  obtain ⟨A, cap, rfl, hcap, _⟩ := hown.form
  have HOWN := Lib.hid hown
  have HM := Lib.hid hm
  clear hown hm
  go_wp2_with fail
  go_loop [8, 9] (fun p i => ∃ k : Nat, k ≤ cuts.length ∧ i = .int .i64 k ∧ p = .int .i64 (7 - cntZ (cuts.take k) s)) (fun _ i => cuts.length - (intOf i).toNat)
  case atStart => exact ⟨0, by omega, rfl, rfl⟩
  case round =>
    obtain ⟨k, hk, rfl, rfl⟩ := hrel
    have hcn := cntZ_le (cuts.take k) s
    have htl : (cuts.take k).length ≤ 7 := by rw [List.length_take]; omega
    by_cases hlt : k < cuts.length
    · have hc? := List.getElem?_eq_getElem hlt
      obtain ⟨g', off, rfl, _, hcell⟩ := HOWN.out.has.atI hc?
      have ht := cntZ_take (size := s) hc?
      generalize cuts[k]'hlt = c at *
      have HT := Lib.hid ht
      clear ht hc?
      generalize cntZ (cuts.take k) s = n at *
      by_cases hcs : c < s
      · go_wp2_with fail
        go_round
        case rel => exact ⟨k + 1, by omega, by go_num, by rw [HT.out, if_pos (by omega)]; exact congrArg (Value.int .i64) (by omega)⟩
        case measure => simp [intOf]; omega
      · go_wp2_with fail
        go_round
        case rel => exact ⟨k + 1, by omega, by go_num, by rw [HT.out, if_neg (by omega)]; exact congrArg (Value.int .i64) (by omega)⟩
        case measure => simp [intOf]; omega
    · have htk : cuts.take k = cuts := List.take_of_length_le (by omega)
      rw [htk]
      go_wp2_with fail
      go_ret
      exact ⟨rfl, HM.out⟩
end Go.Proofs.Ytodinfadheabpaa
