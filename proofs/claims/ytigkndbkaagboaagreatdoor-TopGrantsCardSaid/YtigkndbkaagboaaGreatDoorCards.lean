/-
  DERIVED. GIVEN WITH THE SEED: THE CARDS: each row of YtigkndbkaagboaaGreatDoorRows.lean that lists a variable, with what it lists TIED to the program's text (the seventh form; the later family's looks); each row that meets fmt, with fmt's text TOLD by the authors' own Lean function (tested against real Go, not proved from fmt's source: count such statements apart). THE CARD IS WHAT COUNTS. Prove the row's statement (the work); the ties are given (YtigkndbkaagboaaGreatDoorTie.lean); close each card by the builder's one call (the guide's Derived/Test/ToyasCard.lean, 'card_holds'). Laid BY PROGRAM, IN A SANDBOX (cutbox-door.mjs). By AI agents, Wed Nov 11 2026. No macro, syntax, notation, axiom, sorry.
-/
import Derived.Test.YtigkndbkaagboaaGreatDoorRows
import GoSem.ClaimSeven
namespace Go.Proofs.YtigkndbkaagboaaGreatDoor
namespace Rows

/-- THE TIED CARD OF 'mizzentop.TopGrants'. -/
def topGrantsCard : Claim7 := { stood := { row := topGrantsRow, standIns := [], harness := (true, "d2bebee4013c1eae9b8292ea272908e57892aec0b79cd4b08419b965f0b26773"), looks := true }, kinds := [], alts := [], laidByText := true, laidKinds := [.pinned, .data, .data, .data, .data, .sentinel, .sentinel], laidTests := true, laidLooks := .later }
def TopGrantsCardSaid : Prop := Claim7.holds Tryz.pinned (.plain (OpenSpec.ofChange topGrantsSpec)) topGrantsCard

/-- THE TIED CARD OF 'mizzentop.TopRates'. -/
def topRatesCard : Claim7 := { stood := { row := topRatesRow, standIns := [], harness := (true, "d2bebee4013c1eae9b8292ea272908e57892aec0b79cd4b08419b965f0b26773"), looks := true }, kinds := [], alts := [], laidByText := true, laidKinds := [.pinned, .data, .data, .data, .data, .sentinel, .sentinel], laidTests := true, laidLooks := .later }
def TopRatesCardSaid : Prop := Claim7.holds Tryz.pinned (.plain (OpenSpec.ofChange topRatesSpec)) topRatesCard

/-- THE TIED CARD OF 'mizzenlaw28.ShellRefused'. -/
def shellRefusedCard : Claim7 := { stood := { row := shellRefusedRow, standIns := [], harness := (true, "d2bebee4013c1eae9b8292ea272908e57892aec0b79cd4b08419b965f0b26773"), looks := true }, kinds := [], alts := [], laidByText := true, laidKinds := [.pinned, .data, .data, .data, .data, .sentinel, .sentinel], laidTests := true, laidLooks := .later }
def ShellRefusedCardSaid : Prop := Claim7.holds Tryz.pinned (.plain (OpenSpec.ofChange shellRefusedSpec)) shellRefusedCard

/-- THE TIED CARD OF 'mizzenlaw28.ShellLong'. -/
def shellLongCard : Claim7 := { stood := { row := shellLongRow, standIns := [], harness := (true, "d2bebee4013c1eae9b8292ea272908e57892aec0b79cd4b08419b965f0b26773"), looks := true }, kinds := [], alts := [], laidByText := true, laidKinds := [.pinned, .data, .data, .data, .data, .sentinel, .sentinel], laidTests := true, laidLooks := .later }
def ShellLongCardSaid : Prop := Claim7.holds Tryz.pinned (.plain (OpenSpec.ofChange shellLongSpec)) shellLongCard

/-- THE SECOND FORM's CARD OF 'mizzentop.TopGrants'. -/
def topGrantsUptoCard : Claim7 := { stood := { row := topGrantsUptoRow, standIns := [], harness := (true, "d2bebee4013c1eae9b8292ea272908e57892aec0b79cd4b08419b965f0b26773"), looks := true }, kinds := [], alts := [], laidByText := true, laidKinds := [.pinned, .data, .data, .data, .data, .sentinel, .sentinel], laidTests := true, laidLooks := .later }
def TopGrantsUptoCardSaid : Prop := Claim7.holds Tryz.pinned (.plain (OpenSpec.upto topGrantsSpec)) topGrantsUptoCard

/-- THE SECOND FORM's CARD OF 'mizzentop.TopRates'. -/
def topRatesUptoCard : Claim7 := { stood := { row := topRatesUptoRow, standIns := [], harness := (true, "d2bebee4013c1eae9b8292ea272908e57892aec0b79cd4b08419b965f0b26773"), looks := true }, kinds := [], alts := [], laidByText := true, laidKinds := [.pinned, .data, .data, .data, .data, .sentinel, .sentinel], laidTests := true, laidLooks := .later }
def TopRatesUptoCardSaid : Prop := Claim7.holds Tryz.pinned (.plain (OpenSpec.upto topRatesSpec)) topRatesUptoCard

/-- THE SECOND FORM's CARD OF 'mizzenlaw28.ShellRefused'. -/
def shellRefusedUptoCard : Claim7 := { stood := { row := shellRefusedUptoRow, standIns := [], harness := (true, "d2bebee4013c1eae9b8292ea272908e57892aec0b79cd4b08419b965f0b26773"), looks := true }, kinds := [], alts := [], laidByText := true, laidKinds := [.pinned, .data, .data, .data, .data, .sentinel, .sentinel], laidTests := true, laidLooks := .later }
def ShellRefusedUptoCardSaid : Prop := Claim7.holds Tryz.pinned (.plain (OpenSpec.upto shellRefusedSpec)) shellRefusedUptoCard

/-- THE SECOND FORM's CARD OF 'mizzenlaw28.ShellLong'. -/
def shellLongUptoCard : Claim7 := { stood := { row := shellLongUptoRow, standIns := [], harness := (true, "d2bebee4013c1eae9b8292ea272908e57892aec0b79cd4b08419b965f0b26773"), looks := true }, kinds := [], alts := [], laidByText := true, laidKinds := [.pinned, .data, .data, .data, .data, .sentinel, .sentinel], laidTests := true, laidLooks := .later }
def ShellLongUptoCardSaid : Prop := Claim7.holds Tryz.pinned (.plain (OpenSpec.upto shellLongSpec)) shellLongUptoCard
end Rows
end Go.Proofs.YtigkndbkaagboaaGreatDoor
