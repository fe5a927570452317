/-
  DERIVED. GIVEN WITH THE SEED: THE CARDS: each row of YtflkdkghpoccgaaDoorRows.lean that lists a variable, with what it lists TIED to the program's text (the seventh form; the later family's looks); each row that meets fmt, with fmt's text TOLD by the authors' own Lean function (tested against real Go, not proved from fmt's source: count such statements apart). THE CARD IS WHAT COUNTS. Prove the row's statement (the work); the ties are given (YtflkdkghpoccgaaDoorTie.lean); close each card by the builder's one call (the guide's Derived/Test/ToyasCard.lean, 'card_holds'). Laid BY PROGRAM, IN A SANDBOX (cutbox-door.mjs). By AI agents, Wed Nov 11 2026. No macro, syntax, notation, axiom, sorry.
-/
import Derived.Test.YtflkdkghpoccgaaDoorRows
import GoSem.ClaimSeven
namespace Go.Proofs.YtflkdkghpoccgaaDoor
namespace Rows

/-- THE TIED CARD OF 'mizzenlaw14.TopoAsks'. -/
def topoAsksCard : Claim7 := { stood := { row := topoAsksRow, standIns := [], harness := (true, "7eb1777d289c64592c5581a2270a069ca86e4ee1d4162cebb9db670126b60041"), looks := false }, kinds := [], alts := [], laidByText := true, laidKinds := [.data, .data, .data], laidTests := true, laidLooks := .later }
def TopoAsksCardSaid : Prop := Claim7.holds Tryd.pinned (.plain (OpenSpec.ofChange topoAsksSpec)) topoAsksCard

/-- THE TIED CARD OF 'mizzenlaw14.TopoWays'. -/
def topoWaysCard : Claim7 := { stood := { row := topoWaysRow, standIns := [], harness := (true, "7eb1777d289c64592c5581a2270a069ca86e4ee1d4162cebb9db670126b60041"), looks := false }, kinds := [], alts := [], laidByText := true, laidKinds := [.data, .data, .data], laidTests := true, laidLooks := .later }
def TopoWaysCardSaid : Prop := Claim7.holds Tryd.pinned (.plain (OpenSpec.ofChange topoWaysSpec)) topoWaysCard

/-- THE TIED CARD OF 'mizzenlaw14.TopoNames'. -/
def topoNamesCard : Claim7 := { stood := { row := topoNamesRow, standIns := [], harness := (true, "7eb1777d289c64592c5581a2270a069ca86e4ee1d4162cebb9db670126b60041"), looks := false }, kinds := [], alts := [], laidByText := true, laidKinds := [.data, .data, .data], laidTests := true, laidLooks := .later }
def TopoNamesCardSaid : Prop := Claim7.holds Tryd.pinned (.plain (OpenSpec.ofChange topoNamesSpec)) topoNamesCard

/-- THE SECOND FORM's CARD OF 'mizzenlaw14.TopoAsks'. -/
def topoAsksUptoCard : Claim7 := { stood := { row := topoAsksUptoRow, standIns := [], harness := (true, "7eb1777d289c64592c5581a2270a069ca86e4ee1d4162cebb9db670126b60041"), looks := false }, kinds := [], alts := [], laidByText := true, laidKinds := [.data, .data, .data], laidTests := true, laidLooks := .later }
def TopoAsksUptoCardSaid : Prop := Claim7.holds Tryd.pinned (.plain (OpenSpec.upto topoAsksSpec)) topoAsksUptoCard

/-- THE SECOND FORM's CARD OF 'mizzenlaw14.TopoWays'. -/
def topoWaysUptoCard : Claim7 := { stood := { row := topoWaysUptoRow, standIns := [], harness := (true, "7eb1777d289c64592c5581a2270a069ca86e4ee1d4162cebb9db670126b60041"), looks := false }, kinds := [], alts := [], laidByText := true, laidKinds := [.data, .data, .data], laidTests := true, laidLooks := .later }
def TopoWaysUptoCardSaid : Prop := Claim7.holds Tryd.pinned (.plain (OpenSpec.upto topoWaysSpec)) topoWaysUptoCard

/-- THE SECOND FORM's CARD OF 'mizzenlaw14.TopoNames'. -/
def topoNamesUptoCard : Claim7 := { stood := { row := topoNamesUptoRow, standIns := [], harness := (true, "7eb1777d289c64592c5581a2270a069ca86e4ee1d4162cebb9db670126b60041"), looks := false }, kinds := [], alts := [], laidByText := true, laidKinds := [.data, .data, .data], laidTests := true, laidLooks := .later }
def TopoNamesUptoCardSaid : Prop := Claim7.holds Tryd.pinned (.plain (OpenSpec.upto topoNamesSpec)) topoNamesUptoCard
end Rows
end Go.Proofs.YtflkdkghpoccgaaDoor
