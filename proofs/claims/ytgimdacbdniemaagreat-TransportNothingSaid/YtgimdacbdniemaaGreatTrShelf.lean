/- The library functions of this program, laid by the kit's tools in plain words. -/
import Derived.Shelf.Small.Bits
import Derived.Shelf.Small.Wraps
import Derived.Shelf.Strconv.Itoa0
import Derived.Shelf.Sort.Plain
import Derived.Shelf.Bits.Mul64
import Derived.Shelf.Slices.Turned
import Derived.Ground.Names2Prog
import Derived.Shelf.Slices.Clone
import Derived.Shelf.Slices.SearchI
import Derived.Shelf.Slices.In.SortNone
import Derived.Shelf.Bytes.SlSearch0
import Derived.Ground.SlgnProg
import Derived.Shelf.SlicesE.Reverse
import Derived.Shelf.SlicesE.Delete
import Derived.Shelf.SlicesE.Clone
import Derived.Shelf.Bytes.SlEqualAll
import Derived.Shelf.Bytes.Small
import Derived.Shelf.SlIterI.Collect
import Derived.Ground.GgzProg
import Derived.Test.YtgimdacbdniemaaGreatProg
namespace Go.Proofs
open Go.Shelf
def Tryz.apLays_ren : Go.Shelf.Ren := ⟨fun | 11 => 303 | n => n, fun | 24 => 54 | 26 => 3 | 28 => 388 | 0 => 0 | 33 => 51 | 4 => 4 | n => n, fun | n => n⟩
theorem Tryz.apLays : Go.Proofs.SlLaysZI.n11 Tryz.prog Tryz.apLays_ren := {
  mixed := by kernel_rfl
  f11 := ⟨Tryz.f303.name, by decide, Tryz.func303.trans (congrArg some (by kernel_rfl))⟩
  t0 := Tryz.underlying0
  a0 := Tryz.isAgg0
  z0 := Tryz.sizeOf0
  v0 := Tryz.zeroValue0
  t24 := Tryz.underlying54
  a24 := Tryz.isAgg54
  z24 := Tryz.sizeOf54
  v24 := Tryz.zeroValue54
  t26 := Tryz.underlying3
  a26 := Tryz.isAgg3
  z26 := Tryz.sizeOf3
  v26 := Tryz.zeroValue3
  t28 := Tryz.underlying388
  a28 := Tryz.isAgg388
  z28 := Tryz.sizeOf388
  v28 := Tryz.zeroValue388
  i26 := by kernel_rfl }
end Go.Proofs
