/- SameOp and flat. -/
import Derived.Test.YtpnicodjjbincaaDoorSBakW
namespace Go.Proofs.YtpnicodjjbincaaDoor
open Go.RowKit
set_option linter.unusedVariables false
set_option maxHeartbeats 8000000
set_option maxRecDepth 100000
theorem flatW (o : OpT) (A : Option Addr) (n cap : Nat) (w : World) :
    Calls Tryd.prog 14 #[.agg (opV o (.slice A n cap))] w fun e w' => e = .returned (.agg (opV o (.slice A n cap))) ∧ Mod (fun _ => False) w w' := by
  unfold opV
  have HM := Lib.hid (((Mod.refl (fun _ => False) w).alloc (.cells #[.int .i64 o.kind, .int .i64 o.a, .int .i64 o.b, .int .i64 o.n, .slice A n cap] 26)).alloc (.cells #[.int .i64 o.kind, .int .i64 o.a, .int .i64 o.b, .int .i64 o.n, .slice A n cap] 24))
  go_enter Tryd.func14, Tryd.ntmps14
  go_wp2
  go_returns
  exact ⟨rfl, HM.out⟩
theorem sameOpW (p : OpT) (dv dv' : Value) (w : World) (h1 : Has w w.heap.size 1 encB dv p.data) (h2 : Has w w.heap.size 1 encB dv' p.data) :
    Calls Tryd.prog 13 #[.agg (opV p dv), .agg (opV p dv')] w fun e w' => e = .returned (.bool true) ∧ Mod (fun _ => False) w w' := by
  obtain ⟨A, c, rfl, hc⟩ := h1.form
  obtain ⟨A', c', rfl, hc'⟩ := h2.form
  unfold opV
  have HM := ((Mod.refl (fun _ => False) w).alloc (.cells #[.int .i64 p.kind, .int .i64 p.a, .int .i64 p.b, .int .i64 p.n, .slice A p.data.length c] 24)).alloc (.cells #[.int .i64 p.kind, .int .i64 p.a, .int .i64 p.b, .int .i64 p.n, .slice A' p.data.length c'] 24)
  have hst := run_strH (dst := 9) Tryd.underlying22 Tryd.underlying5 Tryd.underlying9 (h1.later HM (Nat.le_refl _))
  have hst' := run_strH (dst := 9) Tryd.underlying22 Tryd.underlying5 Tryd.underlying9 (h2.later HM (Nat.le_refl _))
  have HM := Lib.hid HM
  clear h1 h2
  go_enter Tryd.func13, Tryd.ntmps13
  go_wp2_with fail
  go_ret
  exact ⟨rfl, HM.out⟩
end Go.Proofs.YtpnicodjjbincaaDoor
