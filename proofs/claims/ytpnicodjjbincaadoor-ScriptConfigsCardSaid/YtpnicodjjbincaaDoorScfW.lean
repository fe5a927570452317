/- Configs: cells, pointers to their numbers; TextConfig's contracts. -/
import Derived.Test.YtpnicodjjbincaaDoorScfP
import Derived.Test.YtpnicodjjbincaaDoorSTxtR
import Derived.Test.YtpnicodjjbincaaDoorSAtoW
import Derived.StillTailTactics
namespace Go.Proofs.YtpnicodjjbincaaDoor
open Go.RowKit
set_option linter.unusedVariables false
set_option maxHeartbeats 4000000
set_option maxRecDepth 100000
def nth (l : List Int) (i : Nat) : Int := l.getD i 0
theorem nth_get {l : List Int} {i : Nat} (h : i < l.length) : nth l i = l[i] := by unfold nth; rw [List.getD_eq_getElem?_getD, List.getElem?_eq_getElem h]; rfl
/-- A config's cells. -/
def cfV (l : List Int) (m : Int) : Array Value := #[.int .i64 (nth l 0), .int .i64 (nth l 1), .int .i64 (nth l 2), .int .i64 (nth l 3), .int .i64 (nth l 4), .int .i64 (nth l 5), .int .i64 (nth l 6), .int .i64 (nth l 7), .int .i64 (nth l 8), .int .i64 (nth l 9), .int .i64 (nth l 10), .int .i64 (nth l 11), .int .i64 (nth l 12), .int .u64 m]
theorem cfV_at (l : List Int) (m : Int) : ∀ i, i < 13 → (cfV l m)[i]? = some (.int .i64 (nth l i))
  | 0, _ => rfl
  | 1, _ => rfl
  | 2, _ => rfl
  | 3, _ => rfl
  | 4, _ => rfl
  | 5, _ => rfl
  | 6, _ => rfl
  | 7, _ => rfl
  | 8, _ => rfl
  | 9, _ => rfl
  | 10, _ => rfl
  | 11, _ => rfl
  | 12, _ => rfl
  | n + 13, h => absurd h (by omega)
theorem cfV_set {l : List Int} (hl : l.length = 13) (m z : Int) : ∀ i, i < 13 → (cfV l m).setIfInBounds i (.int .i64 z) = cfV (l.set i z) m := by
  match l, hl with
  | [z0, z1, z2, z3, z4, z5, z6, z7, z8, z9, z10, z11, z12], _ =>
    intro i hi
    match i, hi with
    | 0, _ => rfl
    | 1, _ => rfl
    | 2, _ => rfl
    | 3, _ => rfl
    | 4, _ => rfl
    | 5, _ => rfl
    | 6, _ => rfl
    | 7, _ => rfl
    | 8, _ => rfl
    | 9, _ => rfl
    | 10, _ => rfl
    | 11, _ => rfl
    | 12, _ => rfl
    | n + 13, h => exact absurd h (by omega)
theorem cfV_last (l : List Int) (m z : Int) : (cfV l m).setIfInBounds 13 (.int .u64 z) = cfV l z := rfl
theorem cf_list {l : List Int} (hl : l.length = 13) (z : Int) : [nth l 0, nth l 1, nth l 2, nth l 3, nth l 4, nth l 5, nth l 6, nth l 7, nth l 8, nth l 9, nth l 10, nth l 11, nth l 12, z] = l ++ [z] := by
  match l, hl with
  | [z0, z1, z2, z3, z4, z5, z6, z7, z8, z9, z10, z11, z12], _ => rfl
/-- Pointers to the thirteen numbers. -/
def ptrs (b : Nat) : Array Value := #[.pointer (some ⟨b, 0, none⟩), .pointer (some ⟨b, 1, none⟩), .pointer (some ⟨b, 2, none⟩), .pointer (some ⟨b, 3, none⟩), .pointer (some ⟨b, 4, none⟩), .pointer (some ⟨b, 5, none⟩), .pointer (some ⟨b, 6, none⟩), .pointer (some ⟨b, 7, none⟩), .pointer (some ⟨b, 8, none⟩), .pointer (some ⟨b, 9, none⟩), .pointer (some ⟨b, 10, none⟩), .pointer (some ⟨b, 11, none⟩), .pointer (some ⟨b, 12, none⟩)]
theorem ptrs_at (b : Nat) : ∀ i, i < 13 → (ptrs b)[i]? = some (.pointer (some ⟨b, i, none⟩))
  | 0, _ => rfl
  | 1, _ => rfl
  | 2, _ => rfl
  | 3, _ => rfl
  | 4, _ => rfl
  | 5, _ => rfl
  | 6, _ => rfl
  | 7, _ => rfl
  | 8, _ => rfl
  | 9, _ => rfl
  | 10, _ => rfl
  | 11, _ => rfl
  | 12, _ => rfl
  | n + 13, h => absurd h (by omega)
theorem numsW (b : Nat) (w : World) :
    Calls Tryd.prog 40 #[.pointer (some ⟨b, 0, none⟩)] w fun e w' => e = .returned (.slice (some ⟨w.heap.size, 0, none⟩) 13 13) ∧ Blk w' w.heap.size 63 (ptrs b) ∧ Mod (fun _ => False) w w' := by
  have HB := Lib.hid (fun w2 : World => Blk.new w2 63 (ptrs b))
  have HM := Lib.hid (fun (w2 : World) (h : Mod (fun _ => False) w w2) => h.alloc (.cells (ptrs b) 63))
  unfold ptrs at HB HM
  go_enter Tryd.func40, Tryd.ntmps40
  go_wp2_with fail
  go_still_tail 39, (by kernel_rfl)
  change wpList _ _ _ _ _ w.drew
  go_wp2_with fail
  go_ret
  unfold ptrs
  exact ⟨rfl, HB.out _, HM.out _ ((Mod.refl _ w).drew)⟩
end Go.Proofs.YtpnicodjjbincaaDoor
