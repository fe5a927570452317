/-
  No cell of these rows narrows 'for every input' (looked for: loops, veiled, ifaces, maps, wideKeys, modest, calm, conditions, laid).
  DERIVED. THE GIVEN ROWS OF THIS SEAT. 3 by the template 'for every input the law returns true; each argument reads behind the call as it read before'; 0 by the template 'total and deterministic' (their statements: YtodinfadheabpaaTotals.lean).
  GIVEN WITH THE SEED: the statements are not yours to turn. If you find one false, say at which input.
  Laid BY PROGRAM, IN A SANDBOX (cutbox-rows.mjs): the forced cells as the released guide's own fill.sh prints them over the translation 7198816bf20f2dc6… (all of the seat's roots in one cut). By AI agents, Wed Nov 11 2026. No macro, syntax, notation, axiom, sorry.
-/
import Derived.Test.YtodinfadheabpaaChecked
import GoSem.Claim
import GoSem.ClaimJoined
import GoSem.ClaimMapViews
import Derived.JoinedTies
import Derived.KernelRfl
namespace Go.Proofs.Ytodinfadheabpaa
/- THE CELL 'sum', in the pinned program and in every row, IS THE sha256 OF THE DUMP (.gsa) THAT YtodinfadheabpaaProg.lean LOADS. Nothing in Lean hashes anything: it is a label: what it is worth is what the hold of that sum in a sandbox is worth. -/
noncomputable def Try.pinned : Pinned := { name := "ytodinfadheabpaa", sum := "7198816bf20f2dc682ab2be1c718c357f9002911fb28b4ec4b4811c867828c9d", checked := Try.checked }
namespace Rows
def none {H : Type} : Left H := { results := [], args := [] }

/-- 'mizzenlaw16.CutoffAsks': WHATEVER THE INPUT: true; the input reads as it did. -/
def cutoffAsksSpec : ChangeSpec := { name := "cutoffAsks", fn := fun _ => fun
  | [d1, d2, d3, d4, d5] => { results := [.lit (.bool true)], args := [d1, d2, d3, d4, d5] }
  | _ => none }
def cutoffAsksRow : OpenClaim := { program := "ytodinfadheabpaa", sum := "7198816bf20f2dc682ab2be1c718c357f9002911fb28b4ec4b4811c867828c9d", func := "mizzen/mizzenlaw16.CutoffAsks", spec := "cutoffAsks", unfollowed := true, recurses := true, apart := false }
def CutoffAsksSaid : Prop := cutoffAsksRow.holds Try.pinned (OpenSpec.ofChange cutoffAsksSpec)

/-- ITS FALSE NEIGHBOUR: 'it returns false'. Refute it at one input. -/
def cutoffAsksWrong : ChangeSpec := { name := "cutoffAsks", fn := fun _ => fun
  | [d1, d2, d3, d4, d5] => { results := [.lit (.bool false)], args := [d1, d2, d3, d4, d5] }
  | _ => none }
def CutoffAsksWrongFalsely : Prop := cutoffAsksRow.holds Try.pinned (OpenSpec.ofChange cutoffAsksWrong)

/-- 'mizzenlaw16.CutoffRises': WHATEVER THE INPUT: true; the input reads as it did. -/
def cutoffRisesSpec : ChangeSpec := { name := "cutoffRises", fn := fun _ => fun
  | [d1, d2, d3, d4, d5] => { results := [.lit (.bool true)], args := [d1, d2, d3, d4, d5] }
  | _ => none }
def cutoffRisesRow : OpenClaim := { program := "ytodinfadheabpaa", sum := "7198816bf20f2dc682ab2be1c718c357f9002911fb28b4ec4b4811c867828c9d", func := "mizzen/mizzenlaw16.CutoffRises", spec := "cutoffRises", unfollowed := true, recurses := true, apart := false }
def CutoffRisesSaid : Prop := cutoffRisesRow.holds Try.pinned (OpenSpec.ofChange cutoffRisesSpec)

/-- ITS FALSE NEIGHBOUR: 'it returns false'. Refute it at one input. -/
def cutoffRisesWrong : ChangeSpec := { name := "cutoffRises", fn := fun _ => fun
  | [d1, d2, d3, d4, d5] => { results := [.lit (.bool false)], args := [d1, d2, d3, d4, d5] }
  | _ => none }
def CutoffRisesWrongFalsely : Prop := cutoffRisesRow.holds Try.pinned (OpenSpec.ofChange cutoffRisesWrong)

/-- 'mizzenlaw16.CutoffForgets': WHATEVER THE INPUT: true; the input reads as it did. -/
def cutoffForgetsSpec : ChangeSpec := { name := "cutoffForgets", fn := fun _ => fun
  | [d1, d2, d3, d4] => { results := [.lit (.bool true)], args := [d1, d2, d3, d4] }
  | _ => none }
def cutoffForgetsRow : OpenClaim := { program := "ytodinfadheabpaa", sum := "7198816bf20f2dc682ab2be1c718c357f9002911fb28b4ec4b4811c867828c9d", func := "mizzen/mizzenlaw16.CutoffForgets", spec := "cutoffForgets", unfollowed := true, recurses := true, apart := false }
def CutoffForgetsSaid : Prop := cutoffForgetsRow.holds Try.pinned (OpenSpec.ofChange cutoffForgetsSpec)

/-- ITS FALSE NEIGHBOUR: 'it returns false'. Refute it at one input. -/
def cutoffForgetsWrong : ChangeSpec := { name := "cutoffForgets", fn := fun _ => fun
  | [d1, d2, d3, d4] => { results := [.lit (.bool false)], args := [d1, d2, d3, d4] }
  | _ => none }
def CutoffForgetsWrongFalsely : Prop := cutoffForgetsRow.holds Try.pinned (OpenSpec.ofChange cutoffForgetsWrong)

/- THE SECOND FORM. 'bulk': how many values and letters a reading holds, each counted each time it is reached (what is shared counts as often as it is met; a slice's spare places count too). A statement '..UptoSaid' is the law's where the arguments, and the package variables that the reading takes, are together of bulk at most 1048576: NARROWER than '..Said'. Prove '..Said' where nothing that the law and all that it calls make is longer than what came in: it says more and counts as full. Else prove '..UptoSaid'. A law counts once. -/
mutual
def uptoBulk {H : Type} : DataW H → Nat
  | .lit (.string bytes) => bytes.length + 1
  | .lit _ => 1
  | .nil => 1
  | .ptr d => uptoBulk d + 1
  | .slice elems spare => uptoBulkAll elems + uptoBulkAll spare + 1
  | .agg parts => uptoBulkAll parts + 1
  | .iface _ d => uptoBulk d + 1
  | .map entries => uptoBulkEntries entries + 1
  | .held _ => 1
def uptoBulkAll {H : Type} : List (DataW H) → Nat
  | [] => 0
  | d :: r => uptoBulk d + uptoBulkAll r
def uptoBulkEntries {H : Type} : List (Lit × DataW H) → Nat
  | [] => 0
  | x :: r => uptoBulkEntry x + uptoBulkEntries r
def uptoBulkEntry {H : Type} : Lit × DataW H → Nat
  | (.string bytes, d) => bytes.length + uptoBulk d + 1
  | (_, d) => uptoBulk d + 1
 end
def uptoSmall : (H : Type) → List (DataW H) → Bool := fun _ ds => decide (uptoBulkAll ds ≤ 1048576)
def OpenSpec.upto (s : _root_.Go.ChangeSpec) : _root_.Go.OpenSpec := { _root_.Go.OpenSpec.ofChange s with cond := some uptoSmall }

/-- 'mizzenlaw16.CutoffAsks', WHERE WHAT IT READS IS OF BULK AT MOST 1048576: true; the input reads as it did. -/
def cutoffAsksUptoRow : OpenClaim := { program := "ytodinfadheabpaa", sum := "7198816bf20f2dc682ab2be1c718c357f9002911fb28b4ec4b4811c867828c9d", func := "mizzen/mizzenlaw16.CutoffAsks", spec := "cutoffAsks", unfollowed := true, recurses := true, apart := false, narrowed := true }
def CutoffAsksUptoSaid : Prop := cutoffAsksUptoRow.holds Try.pinned (OpenSpec.upto cutoffAsksSpec)

/-- 'mizzenlaw16.CutoffRises', WHERE WHAT IT READS IS OF BULK AT MOST 1048576: true; the input reads as it did. -/
def cutoffRisesUptoRow : OpenClaim := { program := "ytodinfadheabpaa", sum := "7198816bf20f2dc682ab2be1c718c357f9002911fb28b4ec4b4811c867828c9d", func := "mizzen/mizzenlaw16.CutoffRises", spec := "cutoffRises", unfollowed := true, recurses := true, apart := false, narrowed := true }
def CutoffRisesUptoSaid : Prop := cutoffRisesUptoRow.holds Try.pinned (OpenSpec.upto cutoffRisesSpec)

/-- 'mizzenlaw16.CutoffForgets', WHERE WHAT IT READS IS OF BULK AT MOST 1048576: true; the input reads as it did. -/
def cutoffForgetsUptoRow : OpenClaim := { program := "ytodinfadheabpaa", sum := "7198816bf20f2dc682ab2be1c718c357f9002911fb28b4ec4b4811c867828c9d", func := "mizzen/mizzenlaw16.CutoffForgets", spec := "cutoffForgets", unfollowed := true, recurses := true, apart := false, narrowed := true }
def CutoffForgetsUptoSaid : Prop := cutoffForgetsUptoRow.holds Try.pinned (OpenSpec.upto cutoffForgetsSpec)

end Rows
end Go.Proofs.Ytodinfadheabpaa
