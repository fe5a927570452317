/- Grants, whatever is asked; messages that came in. -/
import Derived.Test.YtigkndbkaagboaaGreatDoorSrJ
import Derived.Test.YtigkndbkaagboaaGreatDoorSrN
import Derived.Test.YtigkndbkaagboaaGreatDoorSrL
import Derived.Deep.RegionHeld3
namespace Go.Proofs.YtigkndbkaagboaaGreatDoor
open Go.ChangeShapes Go.WideShapes Go.RowKit
set_option linter.unusedVariables false
set_option maxHeartbeats 8000000
set_option maxRecDepth 100000
attribute [local go_sem ↓] Go.wp_at_zero Go.wp_at_succ
instance (k budget share : Int) : Decidable (askG k budget share) := by unfold askG; infer_instance
/-- What is answered: the grants, and the error's number. -/
def ansG (ms : List Ms) (k budget share : Int) : List Gr := if askG k budget share then grantsL ms k budget share else []
def errG (k budget share : Int) : Int := if askG k budget share then 0 else 1
theorem grantsAllW (v : Value) (ms : List Ms) (k budget share : Int) (w : World) (h : Has w w.heap.size 6 encM v ms) (hl : ms.length ≤ 10000) :
    Calls Tryz.prog 8 #[v, .int .i64 k, .int .i64 budget, .int .i64 share] w fun e w' => ∃ v', e = .returned (.tuple #[v', .int .i64 (errG k budget share)]) ∧ Own w' w.heap.size 40 4 encG v' (ansG ms k budget share) ∧ Mod (fun _ => False) w w' := by
  unfold ansG errG
  by_cases ha : askG k budget share
  · rw [if_pos ha, if_pos ha]
    obtain ⟨a, b, c, d, e, f⟩ := ha
    exact grantsW v ms k budget share w h hl a b c d e f
  · rw [if_neg ha, if_neg ha]
    refine (grantsNo v k budget share w ha).mono ?_
    rintro e w' ⟨rfl, rfl⟩
    exact ⟨_, rfl, Own.nil, Mod.refl _ _⟩
theorem refGrantsAllW (v : Value) (ms : List Ms) (k budget share : Int) (w : World) (h : Has w w.heap.size 6 encM v ms) (hl : ms.length ≤ 10000) :
    Calls Tryz.prog 9 #[v, .int .i64 k, .int .i64 budget, .int .i64 share] w fun e w' => ∃ v', e = .returned (.tuple #[v', .int .i64 (errG k budget share)]) ∧ Own w' w.heap.size 41 4 encG v' (ansG ms k budget share) ∧ Mod (fun _ => False) w w' := by
  unfold ansG errG
  by_cases ha : askG k budget share
  · rw [if_pos ha, if_pos ha]
    obtain ⟨a, b, c, d, e, f⟩ := ha
    exact refGrantsW v ms k budget share w h hl a b c d e f
  · rw [if_neg ha, if_neg ha]
    refine (refGrantsNo v k budget share w ha).mono ?_
    rintro e w' ⟨rfl, rfl⟩
    exact ⟨_, rfl, Own.nil, Mod.refl _ _⟩
theorem grants_len (ms : List Ms) (k budget share : Int) : (grantsL ms k budget share).length ≤ k.toNat + 1 := by
  have h1 := stepsG_len ms (budget / k) (firstK ms k) (shareG ms budget share)
  have h2 := shareG_len ms budget share
  have h3 : (firstK ms k).length ≤ k.toNat := by unfold firstK; rw [List.length_take]; omega
  unfold grantsL endG
  rw [List.length_map]
  omega
theorem ans_len (ms : List Ms) (k budget share : Int) : (ansG ms k budget share).length ≤ 9 := by
  unfold ansG
  split
  · rename_i h
    have := grants_len ms k budget share
    obtain ⟨_, h2, _⟩ := h
    omega
  · simp
theorem kept {w w' : World} {p : Addr} {u : Value} (m : Mod (fun _ => False) w w') (h : w.cell? p = some u) : w'.cell? p = some u := by
  rw [m.cell (World.block_lt_of_cell? _ _ h) (fun e => e)]
  exact h
theorem keep13 {a w w' : World} {p1 p2 p3 p4 p5 p6 p7 p8 p9 p10 p11 p12 : Addr} {u1 u2 u3 u4 u5 u6 u7 u8 u9 u10 u11 u12 : Value} (m : Mod (fun _ => False) w w')
    (h : Mod (fun _ => False) a w ∧ w.cell? p1 = some u1 ∧ w.cell? p2 = some u2 ∧ w.cell? p3 = some u3 ∧ w.cell? p4 = some u4 ∧ w.cell? p5 = some u5 ∧ w.cell? p6 = some u6 ∧ w.cell? p7 = some u7 ∧ w.cell? p8 = some u8 ∧ w.cell? p9 = some u9 ∧ w.cell? p10 = some u10 ∧ w.cell? p11 = some u11 ∧ w.cell? p12 = some u12) :
    Mod (fun _ => False) a w' ∧ w'.cell? p1 = some u1 ∧ w'.cell? p2 = some u2 ∧ w'.cell? p3 = some u3 ∧ w'.cell? p4 = some u4 ∧ w'.cell? p5 = some u5 ∧ w'.cell? p6 = some u6 ∧ w'.cell? p7 = some u7 ∧ w'.cell? p8 = some u8 ∧ w'.cell? p9 = some u9 ∧ w'.cell? p10 = some u10 ∧ w'.cell? p11 = some u11 ∧ w'.cell? p12 = some u12 := by
  obtain ⟨h0, h1, h2, h3, h4, h5, h6, h7, h8, h9, h10, h11, h12⟩ := h
  exact ⟨h0.trans m (fun _ _ e => e), kept m h1, kept m h2, kept m h3, kept m h4, kept m h5, kept m h6, kept m h7, kept m h8, kept m h9, kept m h10, kept m h11, kept m h12⟩
theorem mod13 {a w : World} {p1 p2 p3 p4 p5 p6 p7 p8 p9 p10 p11 p12 : Addr} {u1 u2 u3 u4 u5 u6 u7 u8 u9 u10 u11 u12 : Value}
    (h : Mod (fun _ => False) a w ∧ w.cell? p1 = some u1 ∧ w.cell? p2 = some u2 ∧ w.cell? p3 = some u3 ∧ w.cell? p4 = some u4 ∧ w.cell? p5 = some u5 ∧ w.cell? p6 = some u6 ∧ w.cell? p7 = some u7 ∧ w.cell? p8 = some u8 ∧ w.cell? p9 = some u9 ∧ w.cell? p10 = some u10 ∧ w.cell? p11 = some u11 ∧ w.cell? p12 = some u12) : Mod (fun _ => False) a w := h.1
theorem Own.cells4 {w : World} {B : Nat} {T : TypeId} {v : Value} {gs : List Gr} (h : Own w B T 4 encG v gs) {i : Nat} {x : Gr} (hi : gs[i]? = some x) :
    ∃ g cap, v = .slice (some ⟨g, 0, none⟩) gs.length cap ∧ w.cell? ⟨g, i * 4, none⟩ = some (.int .i64 x.peer) ∧ w.cell? ⟨g, i * 4 + 1, none⟩ = some (.int .u64 x.id) ∧ w.cell? ⟨g, i * 4 + 2, none⟩ = some (.int .i64 x.upto) ∧ w.cell? ⟨g, i * 4 + 3, none⟩ = some (.int .i64 x.prio) := by
  have hlt := (List.getElem?_eq_some_iff.1 hi).1
  obtain ⟨g, cap, rfl, -, hg, hgl⟩ := h.form1 (by omega)
  exact ⟨g, cap, rfl, h.cell encG_len hi (j := 0) (by omega), h.cell encG_len hi (j := 1) (by omega), h.cell encG_len hi (j := 2) (by omega), h.cell encG_len hi (j := 3) (by omega)⟩
/-- Messages that came in. -/
def Mss (w : World) (v : Value) (ms : List Ms) : Prop := Has w w.heap.size 6 encM v ms ∧ ms.length ≤ 9223372036854775807
theorem open_msgs {H : Type} {enc : TypeId × Value → H} {w : World} {v : Value} {d : DataW H} {p : List MemPlace}
    (hv : Value.okWide Tryz.prog w .any 0 22 v) (h : DataW.Trod enc Tryz.prog w 0 (fun _ => true) true 22 v d p) : ∃ ms : List Ms, Mss w v ms :=
  open_ms Tryz.underlying22 Tryz.underlying27 (by kernel_rfl) (by kernel_rfl) rfl (fun j f hj => by
    rcases (by have := (Array.getElem?_eq_some_iff.1 hj).1; simp at this; omega : j = 0 ∨ j = 1 ∨ j = 2 ∨ j = 3 ∨ j = 4 ∨ j = 5) with rfl | rfl | rfl | rfl | rfl | rfl <;> (obtain rfl := Option.some.inj hj; first | exact Tryz.underlying3 | exact Tryz.underlying25)) hv h
end Go.Proofs.YtigkndbkaagboaaGreatDoor
