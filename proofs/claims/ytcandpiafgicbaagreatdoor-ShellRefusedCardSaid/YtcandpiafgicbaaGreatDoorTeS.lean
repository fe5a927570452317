/- strconv.Itoa, with the table of powers of ten. -/
import Derived.Test.YtcandpiafgicbaaGreatDoorSNumW
import Derived.Test.YtcandpiafgicbaaGreatDoorRow2
import Derived.Test.YtcandpiafgicbaaGreatDoorReShelf
import Derived.Lib.AppendIntMem
namespace Go.Proofs.YtcandpiafgicbaaGreatDoor
open Go.RowKit
set_option linter.unusedVariables false
/-- The table of powers of ten lies in this world. -/
def Pow (w : World) : Prop := Lib.TabIs Tryz.prog w "internal/strconv.uint64pow10" .u64 Lib.pow10Tab
theorem Pow.later {w w' : World} (h : Pow w) (m : Mod (fun _ => False) w w') : Pow w' := Lib.tabBelow_of_tabIs h w' m.below
theorem itoaW (n : Int) (h0 : 0 ≤ n) (h1 : n ≤ 4611686018427387904) (w : World) (hp : Pow w) :
    Calls Tryz.prog 83 #[.int .i64 n] w fun e w' => e = .returned (.string (tb (Lib.decDigits n.toNat))) ∧ Mod (fun _ => False) w w' := by
  refine (Tryz.strconv_Itoa n (by omega) (by omega) w hp).mono ?_
  rintro e w' ⟨rfl, k, os, rfl⟩
  refine ⟨?_, Mod.ofBelow (Lib.below_grow _ _ (Nat.le_refl _) _ _)⟩
  unfold Lib.itoa
  rw [if_neg (by omega)]
  rfl
end Go.Proofs.YtcandpiafgicbaaGreatDoor
