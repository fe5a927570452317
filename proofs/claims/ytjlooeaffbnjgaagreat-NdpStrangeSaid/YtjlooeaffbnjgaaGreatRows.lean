/-
  No cell of these rows narrows 'for every input' (looked for: loops, veiled, ifaces, maps, wideKeys, modest, calm, conditions, laid).
  DERIVED. THE GIVEN ROWS OF THIS SEAT. 10 by the template 'for every input the law returns true; each argument reads behind the call as it read before'; 0 by the template 'total and deterministic' (their statements: YtjlooeaffbnjgaaGreatTotals.lean).
  GIVEN WITH THE SEED: the statements are not yours to turn. If you find one false, say at which input.
  Laid BY PROGRAM, IN A SANDBOX (cutbox-rows.mjs): the forced cells as the released guide's own fill.sh prints them over the translation c8dc1020df25ddce… (all of the seat's roots in one cut). By AI agents, Wed Nov 11 2026. No macro, syntax, notation, axiom, sorry.
-/
import Derived.Test.YtjlooeaffbnjgaaGreatChecked
import GoSem.Claim
import GoSem.ClaimJoined
import GoSem.ClaimMapViews
import Derived.JoinedTies
import Derived.KernelRfl
namespace Go.Proofs.YtjlooeaffbnjgaaGreat
/- THE CELL 'sum', in the pinned program and in every row, IS THE sha256 OF THE DUMP (.gsa) THAT YtjlooeaffbnjgaaGreatProg.lean LOADS. Nothing in Lean hashes anything: it is a label: what it is worth is what the hold of that sum in a sandbox is worth. -/
noncomputable def Tryz.pinned : Pinned := { name := "ytjlooeaffbnjgaagreat", sum := "c8dc1020df25ddce15e07538b89d925c3832ebfd3d8006e9f14a42f7610907d2", checked := Tryz.checked }
namespace Rows
def none {H : Type} : Left H := { results := [], args := [] }

/-- 'mizzenlaw23.NdpBag': WHATEVER THE INPUT: true; the input reads as it did. -/
def ndpBagSpec : ChangeSpec := { name := "ndpBag", fn := fun _ => fun
  | [d1, d2, d3, d4, d5, d6] => { results := [.lit (.bool true)], args := [d1, d2, d3, d4, d5, d6] }
  | _ => none }
def ndpBagRow : OpenClaim := { program := "ytjlooeaffbnjgaagreat", sum := "c8dc1020df25ddce15e07538b89d925c3832ebfd3d8006e9f14a42f7610907d2", func := "mizzen/mizzenlaw23.NdpBag", spec := "ndpBag", inPlace := ["slices.overlaps[mizzen/api.Range]", "slices.overlaps[uint64]"], unfollowed := true, recurses := true, plainKeys := false, apart := false }
def NdpBagSaid : Prop := ndpBagRow.holds Tryz.pinned (OpenSpec.ofChange ndpBagSpec)

/-- ITS FALSE NEIGHBOUR: 'it returns false'. Refute it at one input. -/
def ndpBagWrong : ChangeSpec := { name := "ndpBag", fn := fun _ => fun
  | [d1, d2, d3, d4, d5, d6] => { results := [.lit (.bool false)], args := [d1, d2, d3, d4, d5, d6] }
  | _ => none }
def NdpBagWrongFalsely : Prop := ndpBagRow.holds Tryz.pinned (OpenSpec.ofChange ndpBagWrong)

/-- 'mizzenlaw23.NdpTries': WHATEVER THE INPUT: true; the input reads as it did. -/
def ndpTriesSpec : ChangeSpec := { name := "ndpTries", fn := fun _ => fun
  | [d1, d2, d3, d4, d5] => { results := [.lit (.bool true)], args := [d1, d2, d3, d4, d5] }
  | _ => none }
def ndpTriesRow : OpenClaim := { program := "ytjlooeaffbnjgaagreat", sum := "c8dc1020df25ddce15e07538b89d925c3832ebfd3d8006e9f14a42f7610907d2", func := "mizzen/mizzenlaw23.NdpTries", spec := "ndpTries", inPlace := ["slices.overlaps[mizzen/api.Range]", "slices.overlaps[uint64]"], unfollowed := true, recurses := true, plainKeys := false, apart := false }
def NdpTriesSaid : Prop := ndpTriesRow.holds Tryz.pinned (OpenSpec.ofChange ndpTriesSpec)

/-- ITS FALSE NEIGHBOUR: 'it returns false'. Refute it at one input. -/
def ndpTriesWrong : ChangeSpec := { name := "ndpTries", fn := fun _ => fun
  | [d1, d2, d3, d4, d5] => { results := [.lit (.bool false)], args := [d1, d2, d3, d4, d5] }
  | _ => none }
def NdpTriesWrongFalsely : Prop := ndpTriesRow.holds Tryz.pinned (OpenSpec.ofChange ndpTriesWrong)

/-- 'mizzenlaw23.NdpAsks': WHATEVER THE INPUT: true; the input reads as it did. -/
def ndpAsksSpec : ChangeSpec := { name := "ndpAsks", fn := fun _ => fun
  | [d1, d2, d3, d4] => { results := [.lit (.bool true)], args := [d1, d2, d3, d4] }
  | _ => none }
def ndpAsksRow : OpenClaim := { program := "ytjlooeaffbnjgaagreat", sum := "c8dc1020df25ddce15e07538b89d925c3832ebfd3d8006e9f14a42f7610907d2", func := "mizzen/mizzenlaw23.NdpAsks", spec := "ndpAsks", inPlace := ["slices.overlaps[mizzen/api.Range]", "slices.overlaps[uint64]"], unfollowed := true, recurses := true, plainKeys := false, apart := false }
def NdpAsksSaid : Prop := ndpAsksRow.holds Tryz.pinned (OpenSpec.ofChange ndpAsksSpec)

/-- ITS FALSE NEIGHBOUR: 'it returns false'. Refute it at one input. -/
def ndpAsksWrong : ChangeSpec := { name := "ndpAsks", fn := fun _ => fun
  | [d1, d2, d3, d4] => { results := [.lit (.bool false)], args := [d1, d2, d3, d4] }
  | _ => none }
def NdpAsksWrongFalsely : Prop := ndpAsksRow.holds Tryz.pinned (OpenSpec.ofChange ndpAsksWrong)

/-- 'mizzenlaw23.NdpStrange': WHATEVER THE INPUT: true; the input reads as it did. -/
def ndpStrangeSpec : ChangeSpec := { name := "ndpStrange", fn := fun _ => fun
  | [d] => { results := [.lit (.bool true)], args := [d] }
  | _ => none }
def ndpStrangeRow : OpenClaim := { program := "ytjlooeaffbnjgaagreat", sum := "c8dc1020df25ddce15e07538b89d925c3832ebfd3d8006e9f14a42f7610907d2", func := "mizzen/mizzenlaw23.NdpStrange", spec := "ndpStrange", inPlace := ["slices.overlaps[mizzen/api.Range]", "slices.overlaps[uint64]"], unfollowed := true, recurses := true, plainKeys := false, apart := false }
def NdpStrangeSaid : Prop := ndpStrangeRow.holds Tryz.pinned (OpenSpec.ofChange ndpStrangeSpec)

/-- ITS FALSE NEIGHBOUR: 'it returns false'. Refute it at one input. -/
def ndpStrangeWrong : ChangeSpec := { name := "ndpStrange", fn := fun _ => fun
  | [d] => { results := [.lit (.bool false)], args := [d] }
  | _ => none }
def NdpStrangeWrongFalsely : Prop := ndpStrangeRow.holds Tryz.pinned (OpenSpec.ofChange ndpStrangeWrong)

/-- 'mizzenlaw23.NdpSame': WHATEVER THE INPUT: true; the input reads as it did. -/
def ndpSameSpec : ChangeSpec := { name := "ndpSame", fn := fun _ => fun
  | [d1, d2, d3, d4] => { results := [.lit (.bool true)], args := [d1, d2, d3, d4] }
  | _ => none }
def ndpSameRow : OpenClaim := { program := "ytjlooeaffbnjgaagreat", sum := "c8dc1020df25ddce15e07538b89d925c3832ebfd3d8006e9f14a42f7610907d2", func := "mizzen/mizzenlaw23.NdpSame", spec := "ndpSame", inPlace := ["slices.overlaps[mizzen/api.Range]", "slices.overlaps[uint64]"], unfollowed := true, recurses := true, plainKeys := false, apart := false }
def NdpSameSaid : Prop := ndpSameRow.holds Tryz.pinned (OpenSpec.ofChange ndpSameSpec)

/-- ITS FALSE NEIGHBOUR: 'it returns false'. Refute it at one input. -/
def ndpSameWrong : ChangeSpec := { name := "ndpSame", fn := fun _ => fun
  | [d1, d2, d3, d4] => { results := [.lit (.bool false)], args := [d1, d2, d3, d4] }
  | _ => none }
def NdpSameWrongFalsely : Prop := ndpSameRow.holds Tryz.pinned (OpenSpec.ofChange ndpSameWrong)

/-- 'mizzenlaw23.NdpPulls': WHATEVER THE INPUT: true; the input reads as it did. -/
def ndpPullsSpec : ChangeSpec := { name := "ndpPulls", fn := fun _ => fun
  | [d1, d2, d3, d4] => { results := [.lit (.bool true)], args := [d1, d2, d3, d4] }
  | _ => none }
def ndpPullsRow : OpenClaim := { program := "ytjlooeaffbnjgaagreat", sum := "c8dc1020df25ddce15e07538b89d925c3832ebfd3d8006e9f14a42f7610907d2", func := "mizzen/mizzenlaw23.NdpPulls", spec := "ndpPulls", inPlace := ["slices.overlaps[mizzen/api.Range]", "slices.overlaps[uint64]"], unfollowed := true, recurses := true, plainKeys := false, apart := false }
def NdpPullsSaid : Prop := ndpPullsRow.holds Tryz.pinned (OpenSpec.ofChange ndpPullsSpec)

/-- ITS FALSE NEIGHBOUR: 'it returns false'. Refute it at one input. -/
def ndpPullsWrong : ChangeSpec := { name := "ndpPulls", fn := fun _ => fun
  | [d1, d2, d3, d4] => { results := [.lit (.bool false)], args := [d1, d2, d3, d4] }
  | _ => none }
def NdpPullsWrongFalsely : Prop := ndpPullsRow.holds Tryz.pinned (OpenSpec.ofChange ndpPullsWrong)

/-- 'mizzenlaw23.NdpNacks': WHATEVER THE INPUT: true; the input reads as it did. -/
def ndpNacksSpec : ChangeSpec := { name := "ndpNacks", fn := fun _ => fun
  | [d1, d2, d3] => { results := [.lit (.bool true)], args := [d1, d2, d3] }
  | _ => none }
def ndpNacksRow : OpenClaim := { program := "ytjlooeaffbnjgaagreat", sum := "c8dc1020df25ddce15e07538b89d925c3832ebfd3d8006e9f14a42f7610907d2", func := "mizzen/mizzenlaw23.NdpNacks", spec := "ndpNacks", inPlace := ["slices.overlaps[mizzen/api.Range]", "slices.overlaps[uint64]"], unfollowed := true, recurses := true, plainKeys := false, apart := false }
def NdpNacksSaid : Prop := ndpNacksRow.holds Tryz.pinned (OpenSpec.ofChange ndpNacksSpec)

/-- ITS FALSE NEIGHBOUR: 'it returns false'. Refute it at one input. -/
def ndpNacksWrong : ChangeSpec := { name := "ndpNacks", fn := fun _ => fun
  | [d1, d2, d3] => { results := [.lit (.bool false)], args := [d1, d2, d3] }
  | _ => none }
def NdpNacksWrongFalsely : Prop := ndpNacksRow.holds Tryz.pinned (OpenSpec.ofChange ndpNacksWrong)

/-- 'mizzenlaw23.NdpOnce': WHATEVER THE INPUT: true; the input reads as it did. -/
def ndpOnceSpec : ChangeSpec := { name := "ndpOnce", fn := fun _ => fun
  | [d1, d2, d3] => { results := [.lit (.bool true)], args := [d1, d2, d3] }
  | _ => none }
def ndpOnceRow : OpenClaim := { program := "ytjlooeaffbnjgaagreat", sum := "c8dc1020df25ddce15e07538b89d925c3832ebfd3d8006e9f14a42f7610907d2", func := "mizzen/mizzenlaw23.NdpOnce", spec := "ndpOnce", inPlace := ["slices.overlaps[mizzen/api.Range]", "slices.overlaps[uint64]"], unfollowed := true, recurses := true, plainKeys := false, apart := false }
def NdpOnceSaid : Prop := ndpOnceRow.holds Tryz.pinned (OpenSpec.ofChange ndpOnceSpec)

/-- ITS FALSE NEIGHBOUR: 'it returns false'. Refute it at one input. -/
def ndpOnceWrong : ChangeSpec := { name := "ndpOnce", fn := fun _ => fun
  | [d1, d2, d3] => { results := [.lit (.bool false)], args := [d1, d2, d3] }
  | _ => none }
def NdpOnceWrongFalsely : Prop := ndpOnceRow.holds Tryz.pinned (OpenSpec.ofChange ndpOnceWrong)

/-- 'mizzenlaw23.NdpCancels': WHATEVER THE INPUT: true; the input reads as it did. -/
def ndpCancelsSpec : ChangeSpec := { name := "ndpCancels", fn := fun _ => fun
  | [d1, d2, d3, d4, d5] => { results := [.lit (.bool true)], args := [d1, d2, d3, d4, d5] }
  | _ => none }
def ndpCancelsRow : OpenClaim := { program := "ytjlooeaffbnjgaagreat", sum := "c8dc1020df25ddce15e07538b89d925c3832ebfd3d8006e9f14a42f7610907d2", func := "mizzen/mizzenlaw23.NdpCancels", spec := "ndpCancels", inPlace := ["slices.overlaps[mizzen/api.Range]", "slices.overlaps[uint64]"], unfollowed := true, recurses := true, plainKeys := false, apart := false }
def NdpCancelsSaid : Prop := ndpCancelsRow.holds Tryz.pinned (OpenSpec.ofChange ndpCancelsSpec)

/-- ITS FALSE NEIGHBOUR: 'it returns false'. Refute it at one input. -/
def ndpCancelsWrong : ChangeSpec := { name := "ndpCancels", fn := fun _ => fun
  | [d1, d2, d3, d4, d5] => { results := [.lit (.bool false)], args := [d1, d2, d3, d4, d5] }
  | _ => none }
def NdpCancelsWrongFalsely : Prop := ndpCancelsRow.holds Tryz.pinned (OpenSpec.ofChange ndpCancelsWrong)

/-- 'mizzenlaw23.NdpKeeps': WHATEVER THE INPUT: true; the input reads as it did. -/
def ndpKeepsSpec : ChangeSpec := { name := "ndpKeeps", fn := fun _ => fun
  | [d1, d2, d3] => { results := [.lit (.bool true)], args := [d1, d2, d3] }
  | _ => none }
def ndpKeepsRow : OpenClaim := { program := "ytjlooeaffbnjgaagreat", sum := "c8dc1020df25ddce15e07538b89d925c3832ebfd3d8006e9f14a42f7610907d2", func := "mizzen/mizzenlaw23.NdpKeeps", spec := "ndpKeeps", inPlace := ["slices.overlaps[mizzen/api.Range]", "slices.overlaps[uint64]"], unfollowed := true, recurses := true, plainKeys := false, apart := false }
def NdpKeepsSaid : Prop := ndpKeepsRow.holds Tryz.pinned (OpenSpec.ofChange ndpKeepsSpec)

/-- ITS FALSE NEIGHBOUR: 'it returns false'. Refute it at one input. -/
def ndpKeepsWrong : ChangeSpec := { name := "ndpKeeps", fn := fun _ => fun
  | [d1, d2, d3] => { results := [.lit (.bool false)], args := [d1, d2, d3] }
  | _ => none }
def NdpKeepsWrongFalsely : Prop := ndpKeepsRow.holds Tryz.pinned (OpenSpec.ofChange ndpKeepsWrong)

/- THE SECOND FORM. 'bulk': how many values and letters a reading holds, each counted each time it is reached (what is shared counts as often as it is met; a slice's spare places count too). A statement '..UptoSaid' is the law's where the arguments, and the package variables that the reading takes, are together of bulk at most 1048576: NARROWER than '..Said'. Prove '..Said' where nothing that the law and all that it calls make is longer than what came in: it says more and counts as full. Else prove '..UptoSaid'. A law counts once. -/
mutual
def uptoBulk {H : Type} : DataW H → Nat
  | .lit (.string bytes) => bytes.length + 1
  | .lit _ => 1
  | .nil => 1
  | .ptr d => uptoBulk d + 1
  | .slice elems spare => uptoBulkAll elems + uptoBulkAll spare + 1
  | .agg parts => uptoBulkAll parts + 1
  | .iface _ d => uptoBulk d + 1
  | .map entries => uptoBulkEntries entries + 1
  | .held _ => 1
def uptoBulkAll {H : Type} : List (DataW H) → Nat
  | [] => 0
  | d :: r => uptoBulk d + uptoBulkAll r
def uptoBulkEntries {H : Type} : List (Lit × DataW H) → Nat
  | [] => 0
  | x :: r => uptoBulkEntry x + uptoBulkEntries r
def uptoBulkEntry {H : Type} : Lit × DataW H → Nat
  | (.string bytes, d) => bytes.length + uptoBulk d + 1
  | (_, d) => uptoBulk d + 1
 end
def uptoSmall : (H : Type) → List (DataW H) → Bool := fun _ ds => decide (uptoBulkAll ds ≤ 1048576)
def OpenSpec.upto (s : _root_.Go.ChangeSpec) : _root_.Go.OpenSpec := { _root_.Go.OpenSpec.ofChange s with cond := some uptoSmall }

/-- 'mizzenlaw23.NdpBag', WHERE WHAT IT READS IS OF BULK AT MOST 1048576: true; the input reads as it did. -/
def ndpBagUptoRow : OpenClaim := { program := "ytjlooeaffbnjgaagreat", sum := "c8dc1020df25ddce15e07538b89d925c3832ebfd3d8006e9f14a42f7610907d2", func := "mizzen/mizzenlaw23.NdpBag", spec := "ndpBag", inPlace := ["slices.overlaps[mizzen/api.Range]", "slices.overlaps[uint64]"], unfollowed := true, recurses := true, plainKeys := false, apart := false, narrowed := true }
def NdpBagUptoSaid : Prop := ndpBagUptoRow.holds Tryz.pinned (OpenSpec.upto ndpBagSpec)

/-- 'mizzenlaw23.NdpTries', WHERE WHAT IT READS IS OF BULK AT MOST 1048576: true; the input reads as it did. -/
def ndpTriesUptoRow : OpenClaim := { program := "ytjlooeaffbnjgaagreat", sum := "c8dc1020df25ddce15e07538b89d925c3832ebfd3d8006e9f14a42f7610907d2", func := "mizzen/mizzenlaw23.NdpTries", spec := "ndpTries", inPlace := ["slices.overlaps[mizzen/api.Range]", "slices.overlaps[uint64]"], unfollowed := true, recurses := true, plainKeys := false, apart := false, narrowed := true }
def NdpTriesUptoSaid : Prop := ndpTriesUptoRow.holds Tryz.pinned (OpenSpec.upto ndpTriesSpec)

/-- 'mizzenlaw23.NdpAsks', WHERE WHAT IT READS IS OF BULK AT MOST 1048576: true; the input reads as it did. -/
def ndpAsksUptoRow : OpenClaim := { program := "ytjlooeaffbnjgaagreat", sum := "c8dc1020df25ddce15e07538b89d925c3832ebfd3d8006e9f14a42f7610907d2", func := "mizzen/mizzenlaw23.NdpAsks", spec := "ndpAsks", inPlace := ["slices.overlaps[mizzen/api.Range]", "slices.overlaps[uint64]"], unfollowed := true, recurses := true, plainKeys := false, apart := false, narrowed := true }
def NdpAsksUptoSaid : Prop := ndpAsksUptoRow.holds Tryz.pinned (OpenSpec.upto ndpAsksSpec)

/-- 'mizzenlaw23.NdpStrange', WHERE WHAT IT READS IS OF BULK AT MOST 1048576: true; the input reads as it did. -/
def ndpStrangeUptoRow : OpenClaim := { program := "ytjlooeaffbnjgaagreat", sum := "c8dc1020df25ddce15e07538b89d925c3832ebfd3d8006e9f14a42f7610907d2", func := "mizzen/mizzenlaw23.NdpStrange", spec := "ndpStrange", inPlace := ["slices.overlaps[mizzen/api.Range]", "slices.overlaps[uint64]"], unfollowed := true, recurses := true, plainKeys := false, apart := false, narrowed := true }
def NdpStrangeUptoSaid : Prop := ndpStrangeUptoRow.holds Tryz.pinned (OpenSpec.upto ndpStrangeSpec)

/-- 'mizzenlaw23.NdpSame', WHERE WHAT IT READS IS OF BULK AT MOST 1048576: true; the input reads as it did. -/
def ndpSameUptoRow : OpenClaim := { program := "ytjlooeaffbnjgaagreat", sum := "c8dc1020df25ddce15e07538b89d925c3832ebfd3d8006e9f14a42f7610907d2", func := "mizzen/mizzenlaw23.NdpSame", spec := "ndpSame", inPlace := ["slices.overlaps[mizzen/api.Range]", "slices.overlaps[uint64]"], unfollowed := true, recurses := true, plainKeys := false, apart := false, narrowed := true }
def NdpSameUptoSaid : Prop := ndpSameUptoRow.holds Tryz.pinned (OpenSpec.upto ndpSameSpec)

/-- 'mizzenlaw23.NdpPulls', WHERE WHAT IT READS IS OF BULK AT MOST 1048576: true; the input reads as it did. -/
def ndpPullsUptoRow : OpenClaim := { program := "ytjlooeaffbnjgaagreat", sum := "c8dc1020df25ddce15e07538b89d925c3832ebfd3d8006e9f14a42f7610907d2", func := "mizzen/mizzenlaw23.NdpPulls", spec := "ndpPulls", inPlace := ["slices.overlaps[mizzen/api.Range]", "slices.overlaps[uint64]"], unfollowed := true, recurses := true, plainKeys := false, apart := false, narrowed := true }
def NdpPullsUptoSaid : Prop := ndpPullsUptoRow.holds Tryz.pinned (OpenSpec.upto ndpPullsSpec)

/-- 'mizzenlaw23.NdpNacks', WHERE WHAT IT READS IS OF BULK AT MOST 1048576: true; the input reads as it did. -/
def ndpNacksUptoRow : OpenClaim := { program := "ytjlooeaffbnjgaagreat", sum := "c8dc1020df25ddce15e07538b89d925c3832ebfd3d8006e9f14a42f7610907d2", func := "mizzen/mizzenlaw23.NdpNacks", spec := "ndpNacks", inPlace := ["slices.overlaps[mizzen/api.Range]", "slices.overlaps[uint64]"], unfollowed := true, recurses := true, plainKeys := false, apart := false, narrowed := true }
def NdpNacksUptoSaid : Prop := ndpNacksUptoRow.holds Tryz.pinned (OpenSpec.upto ndpNacksSpec)

/-- 'mizzenlaw23.NdpOnce', WHERE WHAT IT READS IS OF BULK AT MOST 1048576: true; the input reads as it did. -/
def ndpOnceUptoRow : OpenClaim := { program := "ytjlooeaffbnjgaagreat", sum := "c8dc1020df25ddce15e07538b89d925c3832ebfd3d8006e9f14a42f7610907d2", func := "mizzen/mizzenlaw23.NdpOnce", spec := "ndpOnce", inPlace := ["slices.overlaps[mizzen/api.Range]", "slices.overlaps[uint64]"], unfollowed := true, recurses := true, plainKeys := false, apart := false, narrowed := true }
def NdpOnceUptoSaid : Prop := ndpOnceUptoRow.holds Tryz.pinned (OpenSpec.upto ndpOnceSpec)

/-- 'mizzenlaw23.NdpCancels', WHERE WHAT IT READS IS OF BULK AT MOST 1048576: true; the input reads as it did. -/
def ndpCancelsUptoRow : OpenClaim := { program := "ytjlooeaffbnjgaagreat", sum := "c8dc1020df25ddce15e07538b89d925c3832ebfd3d8006e9f14a42f7610907d2", func := "mizzen/mizzenlaw23.NdpCancels", spec := "ndpCancels", inPlace := ["slices.overlaps[mizzen/api.Range]", "slices.overlaps[uint64]"], unfollowed := true, recurses := true, plainKeys := false, apart := false, narrowed := true }
def NdpCancelsUptoSaid : Prop := ndpCancelsUptoRow.holds Tryz.pinned (OpenSpec.upto ndpCancelsSpec)

/-- 'mizzenlaw23.NdpKeeps', WHERE WHAT IT READS IS OF BULK AT MOST 1048576: true; the input reads as it did. -/
def ndpKeepsUptoRow : OpenClaim := { program := "ytjlooeaffbnjgaagreat", sum := "c8dc1020df25ddce15e07538b89d925c3832ebfd3d8006e9f14a42f7610907d2", func := "mizzen/mizzenlaw23.NdpKeeps", spec := "ndpKeeps", inPlace := ["slices.overlaps[mizzen/api.Range]", "slices.overlaps[uint64]"], unfollowed := true, recurses := true, plainKeys := false, apart := false, narrowed := true }
def NdpKeepsUptoSaid : Prop := ndpKeepsUptoRow.holds Tryz.pinned (OpenSpec.upto ndpKeepsSpec)

end Rows
end Go.Proofs.YtjlooeaffbnjgaaGreat
