/- The contracts of the reference's words, wants and TextOp. -/
import Derived.Test.YtpnicodjjbincaaDoorSPrsW
import Derived.Test.YtpnicodjjbincaaDoorSSplR
import Derived.Test.YtpnicodjjbincaaDoorScrL
namespace Go.Proofs.YtpnicodjjbincaaDoor
open Go.RowKit
set_option linter.unusedVariables false
set_option maxHeartbeats 8000000
set_option maxRecDepth 100000
def namesV : Array Value := #[.string ⟨#[]⟩, .string ⟨#[115, 117, 98, 109, 105, 116]⟩, .string ⟨#[99, 97, 110, 99, 101, 108]⟩, .string ⟨#[115, 116, 97, 116, 117, 115]⟩, .string ⟨#[112, 111, 108, 108]⟩, .string ⟨#[115, 116, 101, 112]⟩, .string ⟨#[115, 101, 114, 118, 101]⟩, .string ⟨#[116, 105, 99, 107]⟩, .string ⟨#[100, 114, 111, 112]⟩, .string ⟨#[100, 111, 117, 98, 108, 101]⟩, .string ⟨#[103, 97, 114, 98, 108, 101]⟩, .string ⟨#[102, 97, 105, 114]⟩, .string ⟨#[105, 100, 108, 101]⟩, .string ⟨#[119, 97, 105, 116, 105, 110, 103]⟩, .string ⟨#[98, 111, 117, 110, 100]⟩]
theorem names_at (k : Nat) (hk : k < 15) : namesV[k]? = some (.string (tb (wordK k))) := by
  rcases (show k = 0 ∨ k = 1 ∨ k = 2 ∨ k = 3 ∨ k = 4 ∨ k = 5 ∨ k = 6 ∨ k = 7 ∨ k = 8 ∨ k = 9 ∨ k = 10 ∨ k = 11 ∨ k = 12 ∨ k = 13 ∨ k = 14 by omega) with rfl | rfl | rfl | rfl | rfl | rfl | rfl | rfl | rfl | rfl | rfl | rfl | rfl | rfl | rfl <;> rfl
theorem wordsRW (w : World) :
    Calls Tryd.prog 31 #[] w fun e w' => e = .returned (.slice (some ⟨w.heap.size, 0, none⟩) 15 15) ∧ Blk w' w.heap.size 9 namesV ∧ Mod (fun _ => False) w w' := by
  go_enter Tryd.func31, Tryd.ntmps31
  go_upto_region 1 with fail
  refine wp_region_lit ?_
  refine Go.Great.wpList_buildSliceTo rfl 39 9 15 _ rfl w.heap.size rfl (some 1) rfl Tryd.underlying39 namesV (by kernel_rfl) ?_
  go_wp2
  go_ret
  exact ⟨rfl, Blk.new _ _ _, (Mod.refl _ _).alloc _⟩
/-- Which fields a Kind has. -/
def wantV (k : Nat) : Array Value := #[.bool ((fieldsK k).contains 97), .bool ((fieldsK k).contains 98), .bool ((fieldsK k).contains 110), .bool ((fieldsK k).contains 100)]
theorem wantsW (k : Nat) (hk : k < 15) (w : World) :
    Calls Tryd.prog 32 #[.int .i64 (k : Int)] w fun e w' => e = .returned (.agg (wantV k)) ∧ Mod (fun _ => False) w w' := by
  rcases (show k = 0 ∨ k = 1 ∨ k = 2 ∨ k = 3 ∨ k = 4 ∨ k = 5 ∨ k = 6 ∨ k = 7 ∨ k = 8 ∨ k = 9 ∨ k = 10 ∨ k = 11 ∨ k = 12 ∨ k = 13 ∨ k = 14 by omega) with rfl | rfl | rfl | rfl | rfl | rfl | rfl | rfl | rfl | rfl | rfl | rfl | rfl | rfl | rfl
  all_goals
    go_enter Tryd.func32, Tryd.ntmps32
    go_wp2
    go_returns
    exact ⟨rfl, (Mod.refl _ _).alloc _⟩
end Go.Proofs.YtpnicodjjbincaaDoor
