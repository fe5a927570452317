/-
  No cell of these rows narrows 'for every input' (looked for: loops, veiled, ifaces, maps, wideKeys, modest, calm, conditions, laid).
  DERIVED. THE GIVEN ROWS OF THIS SEAT. 4 by the template 'for every input the law returns true; each argument reads behind the call as it read before'; 0 by the template 'total and deterministic' (their statements: YtjpibhgdeljihaaTotals.lean).
  GIVEN WITH THE SEED: the statements are not yours to turn. If you find one false, say at which input.
  Laid BY PROGRAM, IN A SANDBOX (cutbox-rows.mjs): the forced cells as the released guide's own fill.sh prints them over the translation 52fb8f3934e86d57… (all of the seat's roots in one cut). By AI agents, Wed Nov 11 2026. No macro, syntax, notation, axiom, sorry.
-/
import Derived.Test.YtjpibhgdeljihaaChecked
import GoSem.Claim
import GoSem.ClaimJoined
import GoSem.ClaimMapViews
import Derived.JoinedTies
import Derived.KernelRfl
namespace Go.Proofs.Ytjpibhgdeljihaa
/- THE CELL 'sum', in the pinned program and in every row, IS THE sha256 OF THE DUMP (.gsa) THAT YtjpibhgdeljihaaProg.lean LOADS. Nothing in Lean hashes anything: it is a label: what it is worth is what the hold of that sum in a sandbox is worth. -/
noncomputable def Try.pinned : Pinned := { name := "ytjpibhgdeljihaa", sum := "52fb8f3934e86d57cdf444924d11dc0d83172daee485ff61744a65afeb5805bb", checked := Try.checked }
namespace Rows
def none {H : Type} : Left H := { results := [], args := [] }

/-- 'mizzenlaw4.BackoffDelays': WHATEVER THE INPUT: true; the input reads as it did. -/
def backoffDelaysSpec : ChangeSpec := { name := "backoffDelays", fn := fun _ => fun
  | [d1, d2, d3] => { results := [.lit (.bool true)], args := [d1, d2, d3] }
  | _ => none }
def backoffDelaysRow : OpenClaim := { program := "ytjpibhgdeljihaa", sum := "52fb8f3934e86d57cdf444924d11dc0d83172daee485ff61744a65afeb5805bb", func := "mizzen/mizzenlaw4.BackoffDelays", spec := "backoffDelays", apart := false }
def BackoffDelaysSaid : Prop := backoffDelaysRow.holds Try.pinned (OpenSpec.ofChange backoffDelaysSpec)

/-- ITS FALSE NEIGHBOUR: 'it returns false'. Refute it at one input. -/
def backoffDelaysWrong : ChangeSpec := { name := "backoffDelays", fn := fun _ => fun
  | [d1, d2, d3] => { results := [.lit (.bool false)], args := [d1, d2, d3] }
  | _ => none }
def BackoffDelaysWrongFalsely : Prop := backoffDelaysRow.holds Try.pinned (OpenSpec.ofChange backoffDelaysWrong)

/-- 'mizzenlaw4.BackoffEnds': WHATEVER THE INPUT: true; the input reads as it did. -/
def backoffEndsSpec : ChangeSpec := { name := "backoffEnds", fn := fun _ => fun
  | [d1, d2, d3, d4] => { results := [.lit (.bool true)], args := [d1, d2, d3, d4] }
  | _ => none }
def backoffEndsRow : OpenClaim := { program := "ytjpibhgdeljihaa", sum := "52fb8f3934e86d57cdf444924d11dc0d83172daee485ff61744a65afeb5805bb", func := "mizzen/mizzenlaw4.BackoffEnds", spec := "backoffEnds", apart := false }
def BackoffEndsSaid : Prop := backoffEndsRow.holds Try.pinned (OpenSpec.ofChange backoffEndsSpec)

/-- ITS FALSE NEIGHBOUR: 'it returns false'. Refute it at one input. -/
def backoffEndsWrong : ChangeSpec := { name := "backoffEnds", fn := fun _ => fun
  | [d1, d2, d3, d4] => { results := [.lit (.bool false)], args := [d1, d2, d3, d4] }
  | _ => none }
def BackoffEndsWrongFalsely : Prop := backoffEndsRow.holds Try.pinned (OpenSpec.ofChange backoffEndsWrong)

/-- 'mizzenlaw4.BackoffPlays': WHATEVER THE INPUT: true; the input reads as it did. -/
def backoffPlaysSpec : ChangeSpec := { name := "backoffPlays", fn := fun _ => fun
  | [d1, d2, d3, d4] => { results := [.lit (.bool true)], args := [d1, d2, d3, d4] }
  | _ => none }
def backoffPlaysRow : OpenClaim := { program := "ytjpibhgdeljihaa", sum := "52fb8f3934e86d57cdf444924d11dc0d83172daee485ff61744a65afeb5805bb", func := "mizzen/mizzenlaw4.BackoffPlays", spec := "backoffPlays", apart := false }
def BackoffPlaysSaid : Prop := backoffPlaysRow.holds Try.pinned (OpenSpec.ofChange backoffPlaysSpec)

/-- ITS FALSE NEIGHBOUR: 'it returns false'. Refute it at one input. -/
def backoffPlaysWrong : ChangeSpec := { name := "backoffPlays", fn := fun _ => fun
  | [d1, d2, d3, d4] => { results := [.lit (.bool false)], args := [d1, d2, d3, d4] }
  | _ => none }
def BackoffPlaysWrongFalsely : Prop := backoffPlaysRow.holds Try.pinned (OpenSpec.ofChange backoffPlaysWrong)

/-- 'mizzenlaw4.BackoffNothing': WHATEVER THE INPUT: true; the input reads as it did. -/
def backoffNothingSpec : ChangeSpec := { name := "backoffNothing", fn := fun _ => fun
  | [d] => { results := [.lit (.bool true)], args := [d] }
  | _ => none }
def backoffNothingRow : OpenClaim := { program := "ytjpibhgdeljihaa", sum := "52fb8f3934e86d57cdf444924d11dc0d83172daee485ff61744a65afeb5805bb", func := "mizzen/mizzenlaw4.BackoffNothing", spec := "backoffNothing", apart := false }
def BackoffNothingSaid : Prop := backoffNothingRow.holds Try.pinned (OpenSpec.ofChange backoffNothingSpec)

/-- ITS FALSE NEIGHBOUR: 'it returns false'. Refute it at one input. -/
def backoffNothingWrong : ChangeSpec := { name := "backoffNothing", fn := fun _ => fun
  | [d] => { results := [.lit (.bool false)], args := [d] }
  | _ => none }
def BackoffNothingWrongFalsely : Prop := backoffNothingRow.holds Try.pinned (OpenSpec.ofChange backoffNothingWrong)

/- THE SECOND FORM. 'bulk': how many values and letters a reading holds, each counted each time it is reached (what is shared counts as often as it is met; a slice's spare places count too). A statement '..UptoSaid' is the law's where the arguments, and the package variables that the reading takes, are together of bulk at most 1048576: NARROWER than '..Said'. Prove '..Said' where nothing that the law and all that it calls make is longer than what came in: it says more and counts as full. Else prove '..UptoSaid'. A law counts once. -/
mutual
def uptoBulk {H : Type} : DataW H → Nat
  | .lit (.string bytes) => bytes.length + 1
  | .lit _ => 1
  | .nil => 1
  | .ptr d => uptoBulk d + 1
  | .slice elems spare => uptoBulkAll elems + uptoBulkAll spare + 1
  | .agg parts => uptoBulkAll parts + 1
  | .iface _ d => uptoBulk d + 1
  | .map entries => uptoBulkEntries entries + 1
  | .held _ => 1
def uptoBulkAll {H : Type} : List (DataW H) → Nat
  | [] => 0
  | d :: r => uptoBulk d + uptoBulkAll r
def uptoBulkEntries {H : Type} : List (Lit × DataW H) → Nat
  | [] => 0
  | x :: r => uptoBulkEntry x + uptoBulkEntries r
def uptoBulkEntry {H : Type} : Lit × DataW H → Nat
  | (.string bytes, d) => bytes.length + uptoBulk d + 1
  | (_, d) => uptoBulk d + 1
 end
def uptoSmall : (H : Type) → List (DataW H) → Bool := fun _ ds => decide (uptoBulkAll ds ≤ 1048576)
def OpenSpec.upto (s : _root_.Go.ChangeSpec) : _root_.Go.OpenSpec := { _root_.Go.OpenSpec.ofChange s with cond := some uptoSmall }

/-- 'mizzenlaw4.BackoffDelays', WHERE WHAT IT READS IS OF BULK AT MOST 1048576: true; the input reads as it did. -/
def backoffDelaysUptoRow : OpenClaim := { program := "ytjpibhgdeljihaa", sum := "52fb8f3934e86d57cdf444924d11dc0d83172daee485ff61744a65afeb5805bb", func := "mizzen/mizzenlaw4.BackoffDelays", spec := "backoffDelays", apart := false, narrowed := true }
def BackoffDelaysUptoSaid : Prop := backoffDelaysUptoRow.holds Try.pinned (OpenSpec.upto backoffDelaysSpec)

/-- 'mizzenlaw4.BackoffEnds', WHERE WHAT IT READS IS OF BULK AT MOST 1048576: true; the input reads as it did. -/
def backoffEndsUptoRow : OpenClaim := { program := "ytjpibhgdeljihaa", sum := "52fb8f3934e86d57cdf444924d11dc0d83172daee485ff61744a65afeb5805bb", func := "mizzen/mizzenlaw4.BackoffEnds", spec := "backoffEnds", apart := false, narrowed := true }
def BackoffEndsUptoSaid : Prop := backoffEndsUptoRow.holds Try.pinned (OpenSpec.upto backoffEndsSpec)

/-- 'mizzenlaw4.BackoffPlays', WHERE WHAT IT READS IS OF BULK AT MOST 1048576: true; the input reads as it did. -/
def backoffPlaysUptoRow : OpenClaim := { program := "ytjpibhgdeljihaa", sum := "52fb8f3934e86d57cdf444924d11dc0d83172daee485ff61744a65afeb5805bb", func := "mizzen/mizzenlaw4.BackoffPlays", spec := "backoffPlays", apart := false, narrowed := true }
def BackoffPlaysUptoSaid : Prop := backoffPlaysUptoRow.holds Try.pinned (OpenSpec.upto backoffPlaysSpec)

/-- 'mizzenlaw4.BackoffNothing', WHERE WHAT IT READS IS OF BULK AT MOST 1048576: true; the input reads as it did. -/
def backoffNothingUptoRow : OpenClaim := { program := "ytjpibhgdeljihaa", sum := "52fb8f3934e86d57cdf444924d11dc0d83172daee485ff61744a65afeb5805bb", func := "mizzen/mizzenlaw4.BackoffNothing", spec := "backoffNothing", apart := false, narrowed := true }
def BackoffNothingUptoSaid : Prop := backoffNothingUptoRow.holds Try.pinned (OpenSpec.upto backoffNothingSpec)

end Rows
end Go.Proofs.Ytjpibhgdeljihaa
