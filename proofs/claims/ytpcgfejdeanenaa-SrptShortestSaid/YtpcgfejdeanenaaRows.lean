/-
  No cell of these rows narrows 'for every input' (looked for: loops, veiled, ifaces, maps, wideKeys, modest, calm, conditions, laid).
  DERIVED. THE GIVEN ROWS OF THIS SEAT. 4 by the template 'for every input the law returns true; each argument reads behind the call as it read before'; 0 by the template 'total and deterministic' (their statements: YtpcgfejdeanenaaTotals.lean).
  GIVEN WITH THE SEED: the statements are not yours to turn. If you find one false, say at which input.
  Laid BY PROGRAM, IN A SANDBOX (cutbox-rows.mjs): the forced cells as the released guide's own fill.sh prints them over the translation 4335b71da3759e8e… (all of the seat's roots in one cut). By AI agents, Wed Nov 11 2026. No macro, syntax, notation, axiom, sorry.
-/
import Derived.Test.YtpcgfejdeanenaaChecked
import GoSem.Claim
import GoSem.ClaimJoined
import GoSem.ClaimMapViews
import Derived.JoinedTies
import Derived.KernelRfl
namespace Go.Proofs.Ytpcgfejdeanenaa
/- THE CELL 'sum', in the pinned program and in every row, IS THE sha256 OF THE DUMP (.gsa) THAT YtpcgfejdeanenaaProg.lean LOADS. Nothing in Lean hashes anything: it is a label: what it is worth is what the hold of that sum in a sandbox is worth. -/
noncomputable def Try.pinned : Pinned := { name := "ytpcgfejdeanenaa", sum := "4335b71da3759e8e82c69c1eae1488a256c81c199f9e2a59aedc2a71b616a97d", checked := Try.checked }
namespace Rows
def none {H : Type} : Left H := { results := [], args := [] }

/-- 'mizzenlaw17.SrptAsks': WHATEVER THE INPUT: true; the input reads as it did. -/
def srptAsksSpec : ChangeSpec := { name := "srptAsks", fn := fun _ => fun
  | [d1, d2, d3, d4] => { results := [.lit (.bool true)], args := [d1, d2, d3, d4] }
  | _ => none }
def srptAsksRow : OpenClaim := { program := "ytpcgfejdeanenaa", sum := "4335b71da3759e8e82c69c1eae1488a256c81c199f9e2a59aedc2a71b616a97d", func := "mizzen/mizzenlaw17.SrptAsks", spec := "srptAsks", unfollowed := true, recurses := true, apart := false }
def SrptAsksSaid : Prop := srptAsksRow.holds Try.pinned (OpenSpec.ofChange srptAsksSpec)

/-- ITS FALSE NEIGHBOUR: 'it returns false'. Refute it at one input. -/
def srptAsksWrong : ChangeSpec := { name := "srptAsks", fn := fun _ => fun
  | [d1, d2, d3, d4] => { results := [.lit (.bool false)], args := [d1, d2, d3, d4] }
  | _ => none }
def SrptAsksWrongFalsely : Prop := srptAsksRow.holds Try.pinned (OpenSpec.ofChange srptAsksWrong)

/-- 'mizzenlaw17.SrptBudget': WHATEVER THE INPUT: true; the input reads as it did. -/
def srptBudgetSpec : ChangeSpec := { name := "srptBudget", fn := fun _ => fun
  | [d1, d2, d3, d4] => { results := [.lit (.bool true)], args := [d1, d2, d3, d4] }
  | _ => none }
def srptBudgetRow : OpenClaim := { program := "ytpcgfejdeanenaa", sum := "4335b71da3759e8e82c69c1eae1488a256c81c199f9e2a59aedc2a71b616a97d", func := "mizzen/mizzenlaw17.SrptBudget", spec := "srptBudget", unfollowed := true, recurses := true, apart := false }
def SrptBudgetSaid : Prop := srptBudgetRow.holds Try.pinned (OpenSpec.ofChange srptBudgetSpec)

/-- ITS FALSE NEIGHBOUR: 'it returns false'. Refute it at one input. -/
def srptBudgetWrong : ChangeSpec := { name := "srptBudget", fn := fun _ => fun
  | [d1, d2, d3, d4] => { results := [.lit (.bool false)], args := [d1, d2, d3, d4] }
  | _ => none }
def SrptBudgetWrongFalsely : Prop := srptBudgetRow.holds Try.pinned (OpenSpec.ofChange srptBudgetWrong)

/-- 'mizzenlaw17.SrptShortest': WHATEVER THE INPUT: true; the input reads as it did. -/
def srptShortestSpec : ChangeSpec := { name := "srptShortest", fn := fun _ => fun
  | [d1, d2, d3] => { results := [.lit (.bool true)], args := [d1, d2, d3] }
  | _ => none }
def srptShortestRow : OpenClaim := { program := "ytpcgfejdeanenaa", sum := "4335b71da3759e8e82c69c1eae1488a256c81c199f9e2a59aedc2a71b616a97d", func := "mizzen/mizzenlaw17.SrptShortest", spec := "srptShortest", unfollowed := true, recurses := true, apart := false }
def SrptShortestSaid : Prop := srptShortestRow.holds Try.pinned (OpenSpec.ofChange srptShortestSpec)

/-- ITS FALSE NEIGHBOUR: 'it returns false'. Refute it at one input. -/
def srptShortestWrong : ChangeSpec := { name := "srptShortest", fn := fun _ => fun
  | [d1, d2, d3] => { results := [.lit (.bool false)], args := [d1, d2, d3] }
  | _ => none }
def SrptShortestWrongFalsely : Prop := srptShortestRow.holds Try.pinned (OpenSpec.ofChange srptShortestWrong)

/-- 'mizzenlaw17.SrptOldest': WHATEVER THE INPUT: true; the input reads as it did. -/
def srptOldestSpec : ChangeSpec := { name := "srptOldest", fn := fun _ => fun
  | [d1, d2, d3, d4] => { results := [.lit (.bool true)], args := [d1, d2, d3, d4] }
  | _ => none }
def srptOldestRow : OpenClaim := { program := "ytpcgfejdeanenaa", sum := "4335b71da3759e8e82c69c1eae1488a256c81c199f9e2a59aedc2a71b616a97d", func := "mizzen/mizzenlaw17.SrptOldest", spec := "srptOldest", unfollowed := true, recurses := true, apart := false }
def SrptOldestSaid : Prop := srptOldestRow.holds Try.pinned (OpenSpec.ofChange srptOldestSpec)

/-- ITS FALSE NEIGHBOUR: 'it returns false'. Refute it at one input. -/
def srptOldestWrong : ChangeSpec := { name := "srptOldest", fn := fun _ => fun
  | [d1, d2, d3, d4] => { results := [.lit (.bool false)], args := [d1, d2, d3, d4] }
  | _ => none }
def SrptOldestWrongFalsely : Prop := srptOldestRow.holds Try.pinned (OpenSpec.ofChange srptOldestWrong)

/- THE SECOND FORM. 'bulk': how many values and letters a reading holds, each counted each time it is reached (what is shared counts as often as it is met; a slice's spare places count too). A statement '..UptoSaid' is the law's where the arguments, and the package variables that the reading takes, are together of bulk at most 1048576: NARROWER than '..Said'. Prove '..Said' where nothing that the law and all that it calls make is longer than what came in: it says more and counts as full. Else prove '..UptoSaid'. A law counts once. -/
mutual
def uptoBulk {H : Type} : DataW H → Nat
  | .lit (.string bytes) => bytes.length + 1
  | .lit _ => 1
  | .nil => 1
  | .ptr d => uptoBulk d + 1
  | .slice elems spare => uptoBulkAll elems + uptoBulkAll spare + 1
  | .agg parts => uptoBulkAll parts + 1
  | .iface _ d => uptoBulk d + 1
  | .map entries => uptoBulkEntries entries + 1
  | .held _ => 1
def uptoBulkAll {H : Type} : List (DataW H) → Nat
  | [] => 0
  | d :: r => uptoBulk d + uptoBulkAll r
def uptoBulkEntries {H : Type} : List (Lit × DataW H) → Nat
  | [] => 0
  | x :: r => uptoBulkEntry x + uptoBulkEntries r
def uptoBulkEntry {H : Type} : Lit × DataW H → Nat
  | (.string bytes, d) => bytes.length + uptoBulk d + 1
  | (_, d) => uptoBulk d + 1
 end
def uptoSmall : (H : Type) → List (DataW H) → Bool := fun _ ds => decide (uptoBulkAll ds ≤ 1048576)
def OpenSpec.upto (s : _root_.Go.ChangeSpec) : _root_.Go.OpenSpec := { _root_.Go.OpenSpec.ofChange s with cond := some uptoSmall }

/-- 'mizzenlaw17.SrptAsks', WHERE WHAT IT READS IS OF BULK AT MOST 1048576: true; the input reads as it did. -/
def srptAsksUptoRow : OpenClaim := { program := "ytpcgfejdeanenaa", sum := "4335b71da3759e8e82c69c1eae1488a256c81c199f9e2a59aedc2a71b616a97d", func := "mizzen/mizzenlaw17.SrptAsks", spec := "srptAsks", unfollowed := true, recurses := true, apart := false, narrowed := true }
def SrptAsksUptoSaid : Prop := srptAsksUptoRow.holds Try.pinned (OpenSpec.upto srptAsksSpec)

/-- 'mizzenlaw17.SrptBudget', WHERE WHAT IT READS IS OF BULK AT MOST 1048576: true; the input reads as it did. -/
def srptBudgetUptoRow : OpenClaim := { program := "ytpcgfejdeanenaa", sum := "4335b71da3759e8e82c69c1eae1488a256c81c199f9e2a59aedc2a71b616a97d", func := "mizzen/mizzenlaw17.SrptBudget", spec := "srptBudget", unfollowed := true, recurses := true, apart := false, narrowed := true }
def SrptBudgetUptoSaid : Prop := srptBudgetUptoRow.holds Try.pinned (OpenSpec.upto srptBudgetSpec)

/-- 'mizzenlaw17.SrptShortest', WHERE WHAT IT READS IS OF BULK AT MOST 1048576: true; the input reads as it did. -/
def srptShortestUptoRow : OpenClaim := { program := "ytpcgfejdeanenaa", sum := "4335b71da3759e8e82c69c1eae1488a256c81c199f9e2a59aedc2a71b616a97d", func := "mizzen/mizzenlaw17.SrptShortest", spec := "srptShortest", unfollowed := true, recurses := true, apart := false, narrowed := true }
def SrptShortestUptoSaid : Prop := srptShortestUptoRow.holds Try.pinned (OpenSpec.upto srptShortestSpec)

/-- 'mizzenlaw17.SrptOldest', WHERE WHAT IT READS IS OF BULK AT MOST 1048576: true; the input reads as it did. -/
def srptOldestUptoRow : OpenClaim := { program := "ytpcgfejdeanenaa", sum := "4335b71da3759e8e82c69c1eae1488a256c81c199f9e2a59aedc2a71b616a97d", func := "mizzen/mizzenlaw17.SrptOldest", spec := "srptOldest", unfollowed := true, recurses := true, apart := false, narrowed := true }
def SrptOldestUptoSaid : Prop := srptOldestUptoRow.holds Try.pinned (OpenSpec.upto srptOldestSpec)

end Rows
end Go.Proofs.Ytpcgfejdeanenaa
