/-
  No cell of these rows narrows 'for every input' (looked for: loops, veiled, ifaces, maps, wideKeys, modest, calm, conditions, laid).
  DERIVED. THE GIVEN ROWS OF THIS SEAT. 4 by the template 'for every input the law returns true; each argument reads behind the call as it read before'; 0 by the template 'total and deterministic' (their statements: YtddnlbkocmpffaaTotals.lean).
  GIVEN WITH THE SEED: the statements are not yours to turn. If you find one false, say at which input.
  Laid BY PROGRAM, IN A SANDBOX (cutbox-rows.mjs): the forced cells as the released guide's own fill.sh prints them over the translation a214748e908a35bd… (all of the seat's roots in one cut). By AI agents, Wed Nov 11 2026. No macro, syntax, notation, axiom, sorry.
-/
import Derived.Test.YtddnlbkocmpffaaChecked
import GoSem.Claim
import GoSem.ClaimJoined
import GoSem.ClaimMapViews
import Derived.JoinedTies
import Derived.KernelRfl
namespace Go.Proofs.Ytddnlbkocmpffaa
/- THE CELL 'sum', in the pinned program and in every row, IS THE sha256 OF THE DUMP (.gsa) THAT YtddnlbkocmpffaaProg.lean LOADS. Nothing in Lean hashes anything: it is a label: what it is worth is what the hold of that sum in a sandbox is worth. -/
noncomputable def Try.pinned : Pinned := { name := "ytddnlbkocmpffaa", sum := "a214748e908a35bd08b7798e9db0aebc02ea66572ed3cb729b7a502c1d7dc279", checked := Try.checked }
namespace Rows
def none {H : Type} : Left H := { results := [], args := [] }

/-- 'mizzenlaw20.PeerFull': WHATEVER THE INPUT: true; the input reads as it did. -/
def peerFullSpec : ChangeSpec := { name := "peerFull", fn := fun _ => fun
  | [d1, d2] => { results := [.lit (.bool true)], args := [d1, d2] }
  | _ => none }
def peerFullRow : OpenClaim := { program := "ytddnlbkocmpffaa", sum := "a214748e908a35bd08b7798e9db0aebc02ea66572ed3cb729b7a502c1d7dc279", func := "mizzen/mizzenlaw20.PeerFull", spec := "peerFull", inPlace := ["slices.overlaps[mizzen/api.Range]", "slices.overlaps[uint64]"], unfollowed := true, recurses := true, apart := false }
def PeerFullSaid : Prop := peerFullRow.holds Try.pinned (OpenSpec.ofChange peerFullSpec)

/-- ITS FALSE NEIGHBOUR: 'it returns false'. Refute it at one input. -/
def peerFullWrong : ChangeSpec := { name := "peerFull", fn := fun _ => fun
  | [d1, d2] => { results := [.lit (.bool false)], args := [d1, d2] }
  | _ => none }
def PeerFullWrongFalsely : Prop := peerFullRow.holds Try.pinned (OpenSpec.ofChange peerFullWrong)

/-- 'mizzenlaw20.PeerSends': WHATEVER THE INPUT: true; the input reads as it did. -/
def peerSendsSpec : ChangeSpec := { name := "peerSends", fn := fun _ => fun
  | [d1, d2, d3, d4] => { results := [.lit (.bool true)], args := [d1, d2, d3, d4] }
  | _ => none }
def peerSendsRow : OpenClaim := { program := "ytddnlbkocmpffaa", sum := "a214748e908a35bd08b7798e9db0aebc02ea66572ed3cb729b7a502c1d7dc279", func := "mizzen/mizzenlaw20.PeerSends", spec := "peerSends", inPlace := ["slices.overlaps[mizzen/api.Range]", "slices.overlaps[uint64]"], unfollowed := true, recurses := true, apart := false }
def PeerSendsSaid : Prop := peerSendsRow.holds Try.pinned (OpenSpec.ofChange peerSendsSpec)

/-- ITS FALSE NEIGHBOUR: 'it returns false'. Refute it at one input. -/
def peerSendsWrong : ChangeSpec := { name := "peerSends", fn := fun _ => fun
  | [d1, d2, d3, d4] => { results := [.lit (.bool false)], args := [d1, d2, d3, d4] }
  | _ => none }
def PeerSendsWrongFalsely : Prop := peerSendsRow.holds Try.pinned (OpenSpec.ofChange peerSendsWrong)

/-- 'mizzenlaw20.PeerOnce': WHATEVER THE INPUT: true; the input reads as it did. -/
def peerOnceSpec : ChangeSpec := { name := "peerOnce", fn := fun _ => fun
  | [d1, d2, d3, d4] => { results := [.lit (.bool true)], args := [d1, d2, d3, d4] }
  | _ => none }
def peerOnceRow : OpenClaim := { program := "ytddnlbkocmpffaa", sum := "a214748e908a35bd08b7798e9db0aebc02ea66572ed3cb729b7a502c1d7dc279", func := "mizzen/mizzenlaw20.PeerOnce", spec := "peerOnce", inPlace := ["slices.overlaps[mizzen/api.Range]", "slices.overlaps[uint64]"], unfollowed := true, recurses := true, apart := false }
def PeerOnceSaid : Prop := peerOnceRow.holds Try.pinned (OpenSpec.ofChange peerOnceSpec)

/-- ITS FALSE NEIGHBOUR: 'it returns false'. Refute it at one input. -/
def peerOnceWrong : ChangeSpec := { name := "peerOnce", fn := fun _ => fun
  | [d1, d2, d3, d4] => { results := [.lit (.bool false)], args := [d1, d2, d3, d4] }
  | _ => none }
def PeerOnceWrongFalsely : Prop := peerOnceRow.holds Try.pinned (OpenSpec.ofChange peerOnceWrong)

/-- 'mizzenlaw20.PeerRetires': WHATEVER THE INPUT: true; the input reads as it did. -/
def peerRetiresSpec : ChangeSpec := { name := "peerRetires", fn := fun _ => fun
  | [d1, d2] => { results := [.lit (.bool true)], args := [d1, d2] }
  | _ => none }
def peerRetiresRow : OpenClaim := { program := "ytddnlbkocmpffaa", sum := "a214748e908a35bd08b7798e9db0aebc02ea66572ed3cb729b7a502c1d7dc279", func := "mizzen/mizzenlaw20.PeerRetires", spec := "peerRetires", inPlace := ["slices.overlaps[mizzen/api.Range]", "slices.overlaps[uint64]"], unfollowed := true, recurses := true, apart := false }
def PeerRetiresSaid : Prop := peerRetiresRow.holds Try.pinned (OpenSpec.ofChange peerRetiresSpec)

/-- ITS FALSE NEIGHBOUR: 'it returns false'. Refute it at one input. -/
def peerRetiresWrong : ChangeSpec := { name := "peerRetires", fn := fun _ => fun
  | [d1, d2] => { results := [.lit (.bool false)], args := [d1, d2] }
  | _ => none }
def PeerRetiresWrongFalsely : Prop := peerRetiresRow.holds Try.pinned (OpenSpec.ofChange peerRetiresWrong)

/- THE SECOND FORM. 'bulk': how many values and letters a reading holds, each counted each time it is reached (what is shared counts as often as it is met; a slice's spare places count too). A statement '..UptoSaid' is the law's where the arguments, and the package variables that the reading takes, are together of bulk at most 1048576: NARROWER than '..Said'. Prove '..Said' where nothing that the law and all that it calls make is longer than what came in: it says more and counts as full. Else prove '..UptoSaid'. A law counts once. -/
mutual
def uptoBulk {H : Type} : DataW H → Nat
  | .lit (.string bytes) => bytes.length + 1
  | .lit _ => 1
  | .nil => 1
  | .ptr d => uptoBulk d + 1
  | .slice elems spare => uptoBulkAll elems + uptoBulkAll spare + 1
  | .agg parts => uptoBulkAll parts + 1
  | .iface _ d => uptoBulk d + 1
  | .map entries => uptoBulkEntries entries + 1
  | .held _ => 1
def uptoBulkAll {H : Type} : List (DataW H) → Nat
  | [] => 0
  | d :: r => uptoBulk d + uptoBulkAll r
def uptoBulkEntries {H : Type} : List (Lit × DataW H) → Nat
  | [] => 0
  | x :: r => uptoBulkEntry x + uptoBulkEntries r
def uptoBulkEntry {H : Type} : Lit × DataW H → Nat
  | (.string bytes, d) => bytes.length + uptoBulk d + 1
  | (_, d) => uptoBulk d + 1
 end
def uptoSmall : (H : Type) → List (DataW H) → Bool := fun _ ds => decide (uptoBulkAll ds ≤ 1048576)
def OpenSpec.upto (s : _root_.Go.ChangeSpec) : _root_.Go.OpenSpec := { _root_.Go.OpenSpec.ofChange s with cond := some uptoSmall }

/-- 'mizzenlaw20.PeerFull', WHERE WHAT IT READS IS OF BULK AT MOST 1048576: true; the input reads as it did. -/
def peerFullUptoRow : OpenClaim := { program := "ytddnlbkocmpffaa", sum := "a214748e908a35bd08b7798e9db0aebc02ea66572ed3cb729b7a502c1d7dc279", func := "mizzen/mizzenlaw20.PeerFull", spec := "peerFull", inPlace := ["slices.overlaps[mizzen/api.Range]", "slices.overlaps[uint64]"], unfollowed := true, recurses := true, apart := false, narrowed := true }
def PeerFullUptoSaid : Prop := peerFullUptoRow.holds Try.pinned (OpenSpec.upto peerFullSpec)

/-- 'mizzenlaw20.PeerSends', WHERE WHAT IT READS IS OF BULK AT MOST 1048576: true; the input reads as it did. -/
def peerSendsUptoRow : OpenClaim := { program := "ytddnlbkocmpffaa", sum := "a214748e908a35bd08b7798e9db0aebc02ea66572ed3cb729b7a502c1d7dc279", func := "mizzen/mizzenlaw20.PeerSends", spec := "peerSends", inPlace := ["slices.overlaps[mizzen/api.Range]", "slices.overlaps[uint64]"], unfollowed := true, recurses := true, apart := false, narrowed := true }
def PeerSendsUptoSaid : Prop := peerSendsUptoRow.holds Try.pinned (OpenSpec.upto peerSendsSpec)

/-- 'mizzenlaw20.PeerOnce', WHERE WHAT IT READS IS OF BULK AT MOST 1048576: true; the input reads as it did. -/
def peerOnceUptoRow : OpenClaim := { program := "ytddnlbkocmpffaa", sum := "a214748e908a35bd08b7798e9db0aebc02ea66572ed3cb729b7a502c1d7dc279", func := "mizzen/mizzenlaw20.PeerOnce", spec := "peerOnce", inPlace := ["slices.overlaps[mizzen/api.Range]", "slices.overlaps[uint64]"], unfollowed := true, recurses := true, apart := false, narrowed := true }
def PeerOnceUptoSaid : Prop := peerOnceUptoRow.holds Try.pinned (OpenSpec.upto peerOnceSpec)

/-- 'mizzenlaw20.PeerRetires', WHERE WHAT IT READS IS OF BULK AT MOST 1048576: true; the input reads as it did. -/
def peerRetiresUptoRow : OpenClaim := { program := "ytddnlbkocmpffaa", sum := "a214748e908a35bd08b7798e9db0aebc02ea66572ed3cb729b7a502c1d7dc279", func := "mizzen/mizzenlaw20.PeerRetires", spec := "peerRetires", inPlace := ["slices.overlaps[mizzen/api.Range]", "slices.overlaps[uint64]"], unfollowed := true, recurses := true, apart := false, narrowed := true }
def PeerRetiresUptoSaid : Prop := peerRetiresUptoRow.holds Try.pinned (OpenSpec.upto peerRetiresSpec)

end Rows
end Go.Proofs.Ytddnlbkocmpffaa
