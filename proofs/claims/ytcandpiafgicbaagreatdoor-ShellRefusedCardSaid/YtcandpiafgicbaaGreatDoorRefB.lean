/- Closed runs that ShellRefused asks: a word without a world. -/
import Derived.Test.YtcandpiafgicbaaGreatDoorRefG
namespace Go.Proofs.YtcandpiafgicbaaGreatDoor
open Go.Proofs.YtcandpiafgicbaaGreatDoor.Ev Go.RowKit
open Go hiding Obj
set_option linter.unusedVariables false
set_option maxRecDepth 100000
theorem rfOne0 : (match runF 7 [.string ⟨#[115, 117, 98, 109, 105, 116, 32, 48, 32, 48, 32, 48, 48, 10]⟩] S0 with | some (v, _) => veq v (.string ⟨#[101, 114, 114, 111, 114, 32, 53, 10]⟩) | none => false) = true := by kernel_rfl
theorem rfOne0W (w : World) (hw : Pow w) : Calls Tryz.prog 7 ⟨[.string ⟨#[115, 117, 98, 109, 105, 116, 32, 48, 32, 48, 32, 48, 48, 10]⟩]⟩ w (ansP ⟨#[101, 114, 114, 111, 114, 32, 53, 10]⟩ w) := strH rfOne0 rfl w hw
theorem rfOne1 : (match runF 7 [.string ⟨#[115, 117, 98, 109, 105, 116, 32, 48, 32, 53, 32, 48, 48, 10]⟩] S0 with | some (v, _) => veq v (.string ⟨#[101, 114, 114, 111, 114, 32, 53, 10]⟩) | none => false) = true := by kernel_rfl
theorem rfOne1W (w : World) (hw : Pow w) : Calls Tryz.prog 7 ⟨[.string ⟨#[115, 117, 98, 109, 105, 116, 32, 48, 32, 53, 32, 48, 48, 10]⟩]⟩ w (ansP ⟨#[101, 114, 114, 111, 114, 32, 53, 10]⟩ w) := strH rfOne1 rfl w hw
theorem rfOne2 : (match runF 7 [.string ⟨#[115, 117, 98, 109, 105, 116, 32, 57, 32, 48, 32, 48, 48, 10]⟩] S0 with | some (v, _) => veq v (.string ⟨#[101, 114, 114, 111, 114, 32, 53, 10]⟩) | none => false) = true := by kernel_rfl
theorem rfOne2W (w : World) (hw : Pow w) : Calls Tryz.prog 7 ⟨[.string ⟨#[115, 117, 98, 109, 105, 116, 32, 57, 32, 48, 32, 48, 48, 10]⟩]⟩ w (ansP ⟨#[101, 114, 114, 111, 114, 32, 53, 10]⟩ w) := strH rfOne2 rfl w hw
theorem rfOne3 : (match runF 7 [.string ⟨#[99, 97, 110, 99, 101, 108, 32, 48, 32, 55, 10]⟩] S0 with | some (v, _) => veq v (.string ⟨#[101, 114, 114, 111, 114, 32, 53, 10]⟩) | none => false) = true := by kernel_rfl
theorem rfOne3W (w : World) (hw : Pow w) : Calls Tryz.prog 7 ⟨[.string ⟨#[99, 97, 110, 99, 101, 108, 32, 48, 32, 55, 10]⟩]⟩ w (ansP ⟨#[101, 114, 114, 111, 114, 32, 53, 10]⟩ w) := strH rfOne3 rfl w hw
theorem rfOne4 : (match runF 7 [.string ⟨#[99, 97, 110, 99, 101, 108, 32, 57, 32, 49, 10]⟩] S0 with | some (v, _) => veq v (.string ⟨#[101, 114, 114, 111, 114, 32, 53, 10]⟩) | none => false) = true := by kernel_rfl
theorem rfOne4W (w : World) (hw : Pow w) : Calls Tryz.prog 7 ⟨[.string ⟨#[99, 97, 110, 99, 101, 108, 32, 57, 32, 49, 10]⟩]⟩ w (ansP ⟨#[101, 114, 114, 111, 114, 32, 53, 10]⟩ w) := strH rfOne4 rfl w hw
theorem rfOne5 : (match runF 7 [.string ⟨#[115, 116, 101, 112, 32, 57, 32, 48, 10]⟩] S0 with | some (v, _) => veq v (.string ⟨#[101, 114, 114, 111, 114, 32, 53, 10]⟩) | none => false) = true := by kernel_rfl
theorem rfOne5W (w : World) (hw : Pow w) : Calls Tryz.prog 7 ⟨[.string ⟨#[115, 116, 101, 112, 32, 57, 32, 48, 10]⟩]⟩ w (ansP ⟨#[101, 114, 114, 111, 114, 32, 53, 10]⟩ w) := strH rfOne5 rfl w hw
theorem rfOne6 : (match runF 7 [.string ⟨#[115, 101, 114, 118, 101, 32, 57, 57, 10]⟩] S0 with | some (v, _) => veq v (.string ⟨#[101, 114, 114, 111, 114, 32, 53, 10]⟩) | none => false) = true := by kernel_rfl
theorem rfOne6W (w : World) (hw : Pow w) : Calls Tryz.prog 7 ⟨[.string ⟨#[115, 101, 114, 118, 101, 32, 57, 57, 10]⟩]⟩ w (ansP ⟨#[101, 114, 114, 111, 114, 32, 53, 10]⟩ w) := strH rfOne6 rfl w hw
theorem rfOne7 : (match runF 7 [.string ⟨#[100, 114, 111, 112, 32, 48, 32, 48, 10]⟩] S0 with | some (v, _) => veq v (.string ⟨#[101, 114, 114, 111, 114, 32, 53, 10]⟩) | none => false) = true := by kernel_rfl
theorem rfOne7W (w : World) (hw : Pow w) : Calls Tryz.prog 7 ⟨[.string ⟨#[100, 114, 111, 112, 32, 48, 32, 48, 10]⟩]⟩ w (ansP ⟨#[101, 114, 114, 111, 114, 32, 53, 10]⟩ w) := strH rfOne7 rfl w hw
theorem rfOne8 : (match runF 7 [.string ⟨#[100, 111, 117, 98, 108, 101, 32, 57, 57, 32, 48, 10]⟩] S0 with | some (v, _) => veq v (.string ⟨#[101, 114, 114, 111, 114, 32, 53, 10]⟩) | none => false) = true := by kernel_rfl
theorem rfOne8W (w : World) (hw : Pow w) : Calls Tryz.prog 7 ⟨[.string ⟨#[100, 111, 117, 98, 108, 101, 32, 57, 57, 32, 48, 10]⟩]⟩ w (ansP ⟨#[101, 114, 114, 111, 114, 32, 53, 10]⟩ w) := strH rfOne8 rfl w hw
theorem rfOne9 : (match runF 7 [.string ⟨#[103, 97, 114, 98, 108, 101, 32, 57, 32, 48, 48, 10]⟩] S0 with | some (v, _) => veq v (.string ⟨#[101, 114, 114, 111, 114, 32, 53, 10]⟩) | none => false) = true := by kernel_rfl
theorem rfOne9W (w : World) (hw : Pow w) : Calls Tryz.prog 7 ⟨[.string ⟨#[103, 97, 114, 98, 108, 101, 32, 57, 32, 48, 48, 10]⟩]⟩ w (ansP ⟨#[101, 114, 114, 111, 114, 32, 53, 10]⟩ w) := strH rfOne9 rfl w hw
theorem rfOne10 : (match runF 7 [.string ⟨#[115, 117, 98, 109, 105, 116, 32, 48, 32, 49, 10]⟩] S0 with | some (v, _) => veq v (.string ⟨#[101, 114, 114, 111, 114, 32, 53, 10]⟩) | none => false) = true := by kernel_rfl
theorem rfOne10W (w : World) (hw : Pow w) : Calls Tryz.prog 7 ⟨[.string ⟨#[115, 117, 98, 109, 105, 116, 32, 48, 32, 49, 10]⟩]⟩ w (ansP ⟨#[101, 114, 114, 111, 114, 32, 53, 10]⟩ w) := strH rfOne10 rfl w hw
theorem rfOne11 : (match runF 7 [.string ⟨#[115, 117, 98, 109, 105, 116, 32, 32, 48, 32, 49, 32, 48, 48, 10]⟩] S0 with | some (v, _) => veq v (.string ⟨#[101, 114, 114, 111, 114, 32, 53, 10]⟩) | none => false) = true := by kernel_rfl
theorem rfOne11W (w : World) (hw : Pow w) : Calls Tryz.prog 7 ⟨[.string ⟨#[115, 117, 98, 109, 105, 116, 32, 32, 48, 32, 49, 32, 48, 48, 10]⟩]⟩ w (ansP ⟨#[101, 114, 114, 111, 114, 32, 53, 10]⟩ w) := strH rfOne11 rfl w hw
theorem rfOne12 : (match runF 7 [.string ⟨#[116, 105, 99, 107, 10]⟩] S0 with | some (v, _) => veq v (.string ⟨#[101, 114, 114, 111, 114, 32, 53, 10]⟩) | none => false) = true := by kernel_rfl
theorem rfOne12W (w : World) (hw : Pow w) : Calls Tryz.prog 7 ⟨[.string ⟨#[116, 105, 99, 107, 10]⟩]⟩ w (ansP ⟨#[101, 114, 114, 111, 114, 32, 53, 10]⟩ w) := strH rfOne12 rfl w hw
theorem rfOne13 : (match runF 7 [.string ⟨#[116, 105, 99, 107, 32, 45, 49, 10]⟩] S0 with | some (v, _) => veq v (.string ⟨#[101, 114, 114, 111, 114, 32, 53, 10]⟩) | none => false) = true := by kernel_rfl
theorem rfOne13W (w : World) (hw : Pow w) : Calls Tryz.prog 7 ⟨[.string ⟨#[116, 105, 99, 107, 32, 45, 49, 10]⟩]⟩ w (ansP ⟨#[101, 114, 114, 111, 114, 32, 53, 10]⟩ w) := strH rfOne13 rfl w hw
theorem rfOne14 : (match runF 7 [.string ⟨#[105, 100, 108, 101, 32, 49, 10]⟩] S0 with | some (v, _) => veq v (.string ⟨#[101, 114, 114, 111, 114, 32, 53, 10]⟩) | none => false) = true := by kernel_rfl
theorem rfOne14W (w : World) (hw : Pow w) : Calls Tryz.prog 7 ⟨[.string ⟨#[105, 100, 108, 101, 32, 49, 10]⟩]⟩ w (ansP ⟨#[101, 114, 114, 111, 114, 32, 53, 10]⟩ w) := strH rfOne14 rfl w hw
theorem rfOne15 : (match runF 7 [.string ⟨#[112, 111, 108, 108, 32, 48, 48, 10]⟩] S0 with | some (v, _) => veq v (.string ⟨#[101, 114, 114, 111, 114, 32, 53, 10]⟩) | none => false) = true := by kernel_rfl
theorem rfOne15W (w : World) (hw : Pow w) : Calls Tryz.prog 7 ⟨[.string ⟨#[112, 111, 108, 108, 32, 48, 48, 10]⟩]⟩ w (ansP ⟨#[101, 114, 114, 111, 114, 32, 53, 10]⟩ w) := strH rfOne15 rfl w hw
theorem rfOne16 : (match runF 7 [.string ⟨#[73, 100, 108, 101, 10]⟩] S0 with | some (v, _) => veq v (.string ⟨#[101, 114, 114, 111, 114, 32, 53, 10]⟩) | none => false) = true := by kernel_rfl
theorem rfOne16W (w : World) (hw : Pow w) : Calls Tryz.prog 7 ⟨[.string ⟨#[73, 100, 108, 101, 10]⟩]⟩ w (ansP ⟨#[101, 114, 114, 111, 114, 32, 53, 10]⟩ w) := strH rfOne16 rfl w hw
end Go.Proofs.YtcandpiafgicbaaGreatDoor
