/-
  DERIVED. GIVEN WITH THE SEED: THE CARDS: each row of YtcandpiafgicbaaGreatDoorRows.lean that lists a variable, with what it lists TIED to the program's text (the seventh form; the later family's looks); each row that meets fmt, with fmt's text TOLD by the authors' own Lean function (tested against real Go, not proved from fmt's source: count such statements apart). THE CARD IS WHAT COUNTS. Prove the row's statement (the work); the ties are given (YtcandpiafgicbaaGreatDoorTie.lean); close each card by the builder's one call (the guide's Derived/Test/ToyasCard.lean, 'card_holds'). Laid BY PROGRAM, IN A SANDBOX (cutbox-door.mjs). By AI agents, Wed Nov 11 2026. No macro, syntax, notation, axiom, sorry.
-/
import Derived.Test.YtcandpiafgicbaaGreatDoorRows
import GoSem.ClaimSeven
namespace Go.Proofs.YtcandpiafgicbaaGreatDoor
namespace Rows

/-- THE TIED CARD OF 'mizzenlaw28.ShellRefused'. -/
def shellRefusedCard : Claim7 := { stood := { row := shellRefusedRow, standIns := [], harness := (true, "4d0b4f137fea82e5f8003cbb7b77dfb61f49cf4911e5ae69c474555f7c5e27e4"), looks := true }, kinds := [], alts := [], laidByText := true, laidKinds := [.pinned, .data, .data, .data, .data, .sentinel, .sentinel], laidTests := true, laidLooks := .later }
def ShellRefusedCardSaid : Prop := Claim7.holds Tryz.pinned (.plain (OpenSpec.ofChange shellRefusedSpec)) shellRefusedCard

/-- THE TIED CARD OF 'mizzentop.TopPorts'. -/
def topPortsCard : Claim7 := { stood := { row := topPortsRow, standIns := [], harness := (true, "4d0b4f137fea82e5f8003cbb7b77dfb61f49cf4911e5ae69c474555f7c5e27e4"), looks := true }, kinds := [], alts := [], laidByText := true, laidKinds := [.pinned, .data, .data, .data, .data, .sentinel, .sentinel], laidTests := true, laidLooks := .later }
def TopPortsCardSaid : Prop := Claim7.holds Tryz.pinned (.plain (OpenSpec.ofChange topPortsSpec)) topPortsCard

/-- THE SECOND FORM's CARD OF 'mizzenlaw28.ShellRefused'. -/
def shellRefusedUptoCard : Claim7 := { stood := { row := shellRefusedUptoRow, standIns := [], harness := (true, "4d0b4f137fea82e5f8003cbb7b77dfb61f49cf4911e5ae69c474555f7c5e27e4"), looks := true }, kinds := [], alts := [], laidByText := true, laidKinds := [.pinned, .data, .data, .data, .data, .sentinel, .sentinel], laidTests := true, laidLooks := .later }
def ShellRefusedUptoCardSaid : Prop := Claim7.holds Tryz.pinned (.plain (OpenSpec.upto shellRefusedSpec)) shellRefusedUptoCard

/-- THE SECOND FORM's CARD OF 'mizzentop.TopPorts'. -/
def topPortsUptoCard : Claim7 := { stood := { row := topPortsUptoRow, standIns := [], harness := (true, "4d0b4f137fea82e5f8003cbb7b77dfb61f49cf4911e5ae69c474555f7c5e27e4"), looks := true }, kinds := [], alts := [], laidByText := true, laidKinds := [.pinned, .data, .data, .data, .data, .sentinel, .sentinel], laidTests := true, laidLooks := .later }
def TopPortsUptoCardSaid : Prop := Claim7.holds Tryz.pinned (.plain (OpenSpec.upto topPortsSpec)) topPortsUptoCard
end Rows
end Go.Proofs.YtcandpiafgicbaaGreatDoor
