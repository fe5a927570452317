/- What the document fixes: grants of one message. -/
import Derived.Test.YtpcgfejdeanenaaSrI
import Derived.Test.YtpcgfejdeanenaaSrN
import Derived.Test.YtpcgfejdeanenaaSrT
namespace Go.Proofs.Ytpcgfejdeanenaa
open Go.RowKit
set_option linter.unusedVariables false
set_option maxHeartbeats 4000000
set_option maxRecDepth 100000
attribute [local go_sem ↓] Go.wp_at_zero Go.wp_at_succ
def msOne : Ms := ⟨1, 1, 100, 0, 0, 0⟩
theorem one_order : orderL false [msOne] = [0] := (order_unique (l := [0]) (by simp) (by rw [show openL [msOne] = [0] by decide])).symm
theorem one_grants : grantsL [msOne] 1 40 0 = [⟨1, 1, 40, 6⟩] := by
  unfold grantsL endG firstK shareG
  rw [one_order, if_neg (by omega)]
  have h : aheadZ [msOne] = 0 := by
    unfold aheadZ
    rw [show openL [msOne] = [0] by decide]
    rfl
  unfold startG
  rw [h]
  rfl
theorem awakeW (w : World) : Calls Try.prog 7 #[] w fun e w' => e = .returned (.bool true) ∧ Mod (fun _ => False) w w' := by
  have hown1 : Own (w.alloc (.cells #[.int .i64 1, .int .u64 1, .int .i64 100, .int .i64 0, .int .i64 0, .int .i64 0] 39)) w.heap.size 39 6 encM (.slice (some ⟨w.heap.size, 0, none⟩) 1 1) [msOne] :=
    World.ownsRow_lit (base := w.heap.size) (size := 6) (e := 39) w #[.int .i64 1, .int .u64 1, .int .i64 100, .int .i64 0, .int .i64 0, .int .i64 0] 1 (Nat.le_refl _) (by decide) rfl
  have hm1 : Mod (fun _ => False) w (w.alloc (.cells #[.int .i64 1, .int .u64 1, .int .i64 100, .int .i64 0, .int .i64 0, .int .i64 0] 39)) := (Mod.refl _ w).alloc _
  have hc1 := grantsW _ [msOne] 1 40 0 _ hown1.has (by simp) (by omega) (by omega) (by omega) (by omega) (by omega) (by omega)
  rw [one_grants] at hc1
  have hc2 := fun (v : Value) (w' : World) => grantsNo v 0 40 0 w' (by unfold askG; omega)
  have hmay1 := fun w' => mayW msOne w'
  have hmay0 := fun w' => mayW ⟨0, 0, 0, 0, 0, 0⟩ w'
  rw [show mayB msOne = true by decide] at hmay1
  rw [show mayB ⟨0, 0, 0, 0, 0, 0⟩ = false by decide] at hmay0
  unfold aggM at hmay1 hmay0
  simp only [msOne] at hmay1 hmay0
  generalize hw1 : w.alloc (.cells #[.int .i64 1, .int .u64 1, .int .i64 100, .int .i64 0, .int .i64 0, .int .i64 0] 39) = w1 at *
  have HW1 := Lib.hid hw1
  have HC1 := Lib.hid hc1
  have HC2 := Lib.hid hc2
  have HY1 := Lib.hid hmay1
  have HY0 := Lib.hid hmay0
  have HO1 := Lib.hid hown1
  have HM1 := Lib.hid hm1
  clear hw1 hc1 hc2 hmay1 hmay0 hown1 hm1
  go_enter Try.func7, Try.ntmps7
  go_wp2_with fail
  rw [HW1.out]
  refine HC1.out.mono ?_
  rintro e w2 ⟨v2, rfl, hown2, m2⟩
  obtain ⟨g2, cap2, rfl, -, hg2, hgl2⟩ := hown2.form1 (by simp)
  have d2 := hown2.cell encG_len (i := 0) (x := ⟨1, 1, 40, 6⟩) rfl (j := 2) (by omega)
  have d3 := hown2.cell encG_len (i := 0) (x := ⟨1, 1, 40, 6⟩) rfl (j := 3) (by omega)
  have hx2 : Own w2 w.heap.size 39 6 encM (.slice (some ⟨w.heap.size, 0, none⟩) 1 1) [msOne] := HO1.out.later m2
  have a0 : w2.cell? ⟨w.heap.size, 0, none⟩ = some (.int .i64 1) := hx2.cell encM_len (i := 0) (x := msOne) rfl (j := 0) (by omega)
  have a1 : w2.cell? ⟨w.heap.size, 1, none⟩ = some (.int .u64 1) := hx2.cell encM_len (i := 0) (x := msOne) rfl (j := 1) (by omega)
  have a2 : w2.cell? ⟨w.heap.size, 2, none⟩ = some (.int .i64 100) := hx2.cell encM_len (i := 0) (x := msOne) rfl (j := 2) (by omega)
  have a3 : w2.cell? ⟨w.heap.size, 3, none⟩ = some (.int .i64 0) := hx2.cell encM_len (i := 0) (x := msOne) rfl (j := 3) (by omega)
  have a4 : w2.cell? ⟨w.heap.size, 4, none⟩ = some (.int .i64 0) := hx2.cell encM_len (i := 0) (x := msOne) rfl (j := 4) (by omega)
  have a5 : w2.cell? ⟨w.heap.size, 5, none⟩ = some (.int .i64 0) := hx2.cell encM_len (i := 0) (x := msOne) rfl (j := 5) (by omega)
  have d2' : w2.cell? ⟨g2, 2, none⟩ = some (.int .i64 40) := d2
  have d3' : w2.cell? ⟨g2, 3, none⟩ = some (.int .i64 6) := d3
  have M2 := Lib.hid (HM1.out.trans m2 (fun _ _ e => e))
  clear hown2 m2 hx2 d2 d3
  go_wp2_with fail
  refine (HC2.out _ _).mono ?_
  rintro e w3 ⟨rfl, rfl⟩
  go_wp2_with fail
  refine (HY1.out _).mono ?_
  rintro e w4 ⟨rfl, m4⟩
  go_wp2_with fail
  refine (HY0.out _).mono ?_
  rintro e w5 ⟨rfl, m5⟩
  have M5 := Lib.hid ((M2.out.trans m4 (fun _ _ e => e)).trans m5 (fun _ _ e => e))
  clear m4 m5
  go_wp2_with fail
  go_ret
  exact ⟨rfl, M5.out⟩
end Go.Proofs.Ytpcgfejdeanenaa
