/- The program's words; a field's place. -/
import Derived.Test.YtpnicodjjbincaaDoorSUnhW
import Derived.Test.YtpnicodjjbincaaDoorScrQ
import Derived.Handy
import Derived.Laws.Tables
import Derived.Deep.CutBlock
namespace Go.Proofs.YtpnicodjjbincaaDoor
open Go.RowKit
set_option linter.unusedVariables false
set_option maxHeartbeats 4000000
set_option maxRecDepth 100000
def tabV : Array Value := (kindW.flatMap fun p => [Value.string (tb p.1), Value.string (tb p.2)]).toArray
theorem wpList_buildC {P : Program} {ops : Array Oper} {rest : List Oper} {o : Oper} {a : Act} {w : World} {Q : Exit → Act → World → Prop} (hg : o.guard = none) (t : TypeId) (parts : Array (Nat × Operand)) (ho : o.op = .build t parts) (cells : Array Value)
    (hf : P.built t (parts.map fun (i, x) => (i, a.eval x)).toList = some cells) (h : wpList P ops Q rest (a.put o.dst (.agg cells)) w) : wpList P ops Q (o :: rest) a w :=
  wpList_build hg t parts ho (by rw [hf]; rfl) (by rw [hf]; exact h)
theorem wordsW (w : World) :
    Calls Tryd.prog 24 #[] w fun e w' => e = .returned (.agg tabV) ∧ Mod (fun _ => False) w w' := by
  go_enter Tryd.func24, Tryd.ntmps24
  go_upto_region 1 with fail
  refine wp_region_lit ?_
  refine wpList_buildC rfl 57 _ rfl #[.string ⟨#[115, 117, 98, 109, 105, 116]⟩, .string ⟨#[97, 98, 100]⟩] (by kernel_rfl) ?_
  refine wpList_buildC rfl 57 _ rfl #[.string ⟨#[99, 97, 110, 99, 101, 108]⟩, .string ⟨#[97, 110]⟩] (by kernel_rfl) ?_
  refine wpList_buildC rfl 57 _ rfl #[.string ⟨#[115, 116, 97, 116, 117, 115]⟩, .string ⟨#[97, 110]⟩] (by kernel_rfl) ?_
  refine wpList_buildC rfl 57 _ rfl #[.string ⟨#[112, 111, 108, 108]⟩, .string ⟨#[97]⟩] (by kernel_rfl) ?_
  refine wpList_buildC rfl 57 _ rfl #[.string ⟨#[115, 116, 101, 112]⟩, .string ⟨#[97, 98]⟩] (by kernel_rfl) ?_
  refine wpList_buildC rfl 57 _ rfl #[.string ⟨#[115, 101, 114, 118, 101]⟩, .string ⟨#[97]⟩] (by kernel_rfl) ?_
  refine wpList_buildC rfl 57 _ rfl #[.string ⟨#[116, 105, 99, 107]⟩, .string ⟨#[110]⟩] (by kernel_rfl) ?_
  refine wpList_buildC rfl 57 _ rfl #[.string ⟨#[100, 114, 111, 112]⟩, .string ⟨#[97, 110]⟩] (by kernel_rfl) ?_
  refine wpList_buildC rfl 57 _ rfl #[.string ⟨#[100, 111, 117, 98, 108, 101]⟩, .string ⟨#[97, 110]⟩] (by kernel_rfl) ?_
  refine wpList_buildC rfl 57 _ rfl #[.string ⟨#[103, 97, 114, 98, 108, 101]⟩, .string ⟨#[97, 100]⟩] (by kernel_rfl) ?_
  refine wpList_buildC rfl 57 _ rfl #[.string ⟨#[102, 97, 105, 114]⟩, .string ⟨#[110]⟩] (by kernel_rfl) ?_
  refine wpList_buildC rfl 57 _ rfl #[.string ⟨#[105, 100, 108, 101]⟩, .string ⟨#[]⟩] (by kernel_rfl) ?_
  refine wpList_buildC rfl 57 _ rfl #[.string ⟨#[119, 97, 105, 116, 105, 110, 103]⟩, .string ⟨#[]⟩] (by kernel_rfl) ?_
  refine wpList_buildC rfl 57 _ rfl #[.string ⟨#[98, 111, 117, 110, 100]⟩, .string ⟨#[]⟩] (by kernel_rfl) ?_
  refine wpList_buildC rfl 58 _ rfl tabV (by kernel_rfl) ?_
  refine wpList_store_row rfl 58 _ _ rfl w.heap.size tabV (by kernel_rfl) (by kernel_rfl) 58 _ (heap_alloc_new w _) (by kernel_rfl) (by kernel_rfl) (by kernel_rfl) ?_
  refine wpList_nil ?_
  rename_i K hK
  refine hK _ _ ?_
  refine wp_ret ?_
  refine bodyPost_ret (results_cell_row (p := 0) (by kernel_rfl) _ _ w.heap.size 58 tabV (0, 0) _ (by kernel_rfl) (setRow_heap _ _ _ tabV _ (0, 0) (heap_alloc_new w _)) Tryd.underlying58 (by kernel_rfl) (by kernel_rfl)) (by kernel_rfl) ?_
  exact ⟨rfl, ((Mod.refl _ w).alloc _).trans ⟨rfl, rfl, rfl, by simp [World.setRow], fun i hi hn => setRow_other _ _ i _ hn⟩ (fun i hi e => by have e' : i = w.heap.size := e; omega)⟩
theorem tab_idx (k : Nat) (hk : k < 15) (w : World) : (Instr.index 58 (.agg tabV) (.int .i64 (k : Int))).run Tryd.prog w = .ok (.agg #[.string (tb (wordK k)), .string (tb (fieldsK k))]) w := by
  rcases (show k = 0 ∨ k = 1 ∨ k = 2 ∨ k = 3 ∨ k = 4 ∨ k = 5 ∨ k = 6 ∨ k = 7 ∨ k = 8 ∨ k = 9 ∨ k = 10 ∨ k = 11 ∨ k = 12 ∨ k = 13 ∨ k = 14 by omega) with rfl | rfl | rfl | rfl | rfl | rfl | rfl | rfl | rfl | rfl | rfl | rfl | rfl | rfl | rfl <;> kernel_rfl
/-- Where a field's number lies; nil: it is bytes. -/
def numPtr (bo : Nat) (c : UInt8) : Value := if c = 97 then .pointer (some ⟨bo, 1, none⟩) else if c = 98 then .pointer (some ⟨bo, 2, none⟩) else if c = 110 then .pointer (some ⟨bo, 3, none⟩) else .pointer none
theorem numW (bo : Nat) (c : UInt8) (hc : c = 97 ∨ c = 98 ∨ c = 110 ∨ c = 100) (w : World) :
    Calls Tryd.prog 27 #[.pointer (some ⟨bo, 0, none⟩), .int .i32 (c.toNat : Int)] w fun e w' => e = .returned (numPtr bo c) ∧ w' = w := by
  rcases hc with rfl | rfl | rfl | rfl
  all_goals
    go_enter Tryd.func27, Tryd.ntmps27
    go_wp2
    go_ret
    exact ⟨rfl, rfl⟩
end Go.Proofs.YtpnicodjjbincaaDoor
