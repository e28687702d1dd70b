/-
  No cell of these rows narrows 'for every input' (looked for: loops, veiled, ifaces, maps, wideKeys, modest, calm, conditions, laid).
  DERIVED. THE GIVEN ROWS OF THIS SEAT. 4 by the template 'for every input the law returns true; each argument reads behind the call as it read before'; 0 by the template 'total and deterministic' (their statements: YtifbjnlbohigkaaTotals.lean).
  GIVEN WITH THE SEED: the statements are not yours to turn. If you find one false, say at which input.
  Laid BY PROGRAM, IN A SANDBOX (cutbox-rows.mjs): the forced cells as the released guide's own fill.sh prints them over the translation 96fa5e2d5fcb136f… (all of the seat's roots in one cut). By AI agents, Wed Nov 11 2026. No macro, syntax, notation, axiom, sorry.
-/
import Derived.Test.YtifbjnlbohigkaaChecked
import GoSem.Claim
import GoSem.ClaimJoined
import GoSem.ClaimMapViews
import Derived.JoinedTies
import Derived.KernelRfl
namespace Go.Proofs.Ytifbjnlbohigkaa
/- THE CELL 'sum', in the pinned program and in every row, IS THE sha256 OF THE DUMP (.gsa) THAT YtifbjnlbohigkaaProg.lean LOADS. Nothing in Lean hashes anything: it is a label: what it is worth is what the hold of that sum in a sandbox is worth. -/
noncomputable def Try.pinned : Pinned := { name := "ytifbjnlbohigkaa", sum := "96fa5e2d5fcb136f18c4dc88b411b1c482939894fc5b9e4a04cb6f4658830c72", checked := Try.checked }
namespace Rows
def none {H : Type} : Left H := { results := [], args := [] }

/-- 'beaconrykeep.CommitOne': WHATEVER THE INPUT: true; the input reads as it did. -/
def commitOneSpec : ChangeSpec := { name := "commitOne", fn := fun _ => fun
  | [d1, d2] => { results := [.lit (.bool true)], args := [d1, d2] }
  | _ => none }
def commitOneRow : OpenClaim := { program := "ytifbjnlbohigkaa", sum := "96fa5e2d5fcb136f18c4dc88b411b1c482939894fc5b9e4a04cb6f4658830c72", func := "beaconry/beaconrykeep.CommitOne", spec := "commitOne", unfollowed := true, recurses := true, apart := false }
def CommitOneSaid : Prop := commitOneRow.holds Try.pinned (OpenSpec.ofChange commitOneSpec)

/-- ITS FALSE NEIGHBOUR: 'it returns false'. Refute it at one input. -/
def commitOneWrong : ChangeSpec := { name := "commitOne", fn := fun _ => fun
  | [d1, d2] => { results := [.lit (.bool false)], args := [d1, d2] }
  | _ => none }
def CommitOneWrongFalsely : Prop := commitOneRow.holds Try.pinned (OpenSpec.ofChange commitOneWrong)

/-- 'beaconrykeep.CommitStays': WHATEVER THE INPUT: true; the input reads as it did. -/
def commitStaysSpec : ChangeSpec := { name := "commitStays", fn := fun _ => fun
  | [d1, d2, d3] => { results := [.lit (.bool true)], args := [d1, d2, d3] }
  | _ => none }
def commitStaysRow : OpenClaim := { program := "ytifbjnlbohigkaa", sum := "96fa5e2d5fcb136f18c4dc88b411b1c482939894fc5b9e4a04cb6f4658830c72", func := "beaconry/beaconrykeep.CommitStays", spec := "commitStays", unfollowed := true, recurses := true, apart := false }
def CommitStaysSaid : Prop := commitStaysRow.holds Try.pinned (OpenSpec.ofChange commitStaysSpec)

/-- ITS FALSE NEIGHBOUR: 'it returns false'. Refute it at one input. -/
def commitStaysWrong : ChangeSpec := { name := "commitStays", fn := fun _ => fun
  | [d1, d2, d3] => { results := [.lit (.bool false)], args := [d1, d2, d3] }
  | _ => none }
def CommitStaysWrongFalsely : Prop := commitStaysRow.holds Try.pinned (OpenSpec.ofChange commitStaysWrong)

/-- 'beaconrykeep.CommitStuck': WHATEVER THE INPUT: true; the input reads as it did. -/
def commitStuckSpec : ChangeSpec := { name := "commitStuck", fn := fun _ => fun
  | [d1, d2] => { results := [.lit (.bool true)], args := [d1, d2] }
  | _ => none }
def commitStuckRow : OpenClaim := { program := "ytifbjnlbohigkaa", sum := "96fa5e2d5fcb136f18c4dc88b411b1c482939894fc5b9e4a04cb6f4658830c72", func := "beaconry/beaconrykeep.CommitStuck", spec := "commitStuck", unfollowed := true, recurses := true, apart := false }
def CommitStuckSaid : Prop := commitStuckRow.holds Try.pinned (OpenSpec.ofChange commitStuckSpec)

/-- ITS FALSE NEIGHBOUR: 'it returns false'. Refute it at one input. -/
def commitStuckWrong : ChangeSpec := { name := "commitStuck", fn := fun _ => fun
  | [d1, d2] => { results := [.lit (.bool false)], args := [d1, d2] }
  | _ => none }
def CommitStuckWrongFalsely : Prop := commitStuckRow.holds Try.pinned (OpenSpec.ofChange commitStuckWrong)

/-- 'beaconrykeep.CommitEnds': WHATEVER THE INPUT: true; the input reads as it did. -/
def commitEndsSpec : ChangeSpec := { name := "commitEnds", fn := fun _ => fun
  | [d1, d2] => { results := [.lit (.bool true)], args := [d1, d2] }
  | _ => none }
def commitEndsRow : OpenClaim := { program := "ytifbjnlbohigkaa", sum := "96fa5e2d5fcb136f18c4dc88b411b1c482939894fc5b9e4a04cb6f4658830c72", func := "beaconry/beaconrykeep.CommitEnds", spec := "commitEnds", unfollowed := true, recurses := true, apart := false }
def CommitEndsSaid : Prop := commitEndsRow.holds Try.pinned (OpenSpec.ofChange commitEndsSpec)

/-- ITS FALSE NEIGHBOUR: 'it returns false'. Refute it at one input. -/
def commitEndsWrong : ChangeSpec := { name := "commitEnds", fn := fun _ => fun
  | [d1, d2] => { results := [.lit (.bool false)], args := [d1, d2] }
  | _ => none }
def CommitEndsWrongFalsely : Prop := commitEndsRow.holds Try.pinned (OpenSpec.ofChange commitEndsWrong)

/- THE SECOND FORM. 'bulk': how many values and letters a reading holds, each counted each time it is reached (what is shared counts as often as it is met; a slice's spare places count too). A statement '..UptoSaid' is the law's where the arguments, and the package variables that the reading takes, are together of bulk at most 1048576: NARROWER than '..Said'. Prove '..Said' where nothing that the law and all that it calls make is longer than what came in: it says more and counts as full. Else prove '..UptoSaid'. A law counts once. -/
mutual
def uptoBulk {H : Type} : DataW H → Nat
  | .lit (.string bytes) => bytes.length + 1
  | .lit _ => 1
  | .nil => 1
  | .ptr d => uptoBulk d + 1
  | .slice elems spare => uptoBulkAll elems + uptoBulkAll spare + 1
  | .agg parts => uptoBulkAll parts + 1
  | .iface _ d => uptoBulk d + 1
  | .map entries => uptoBulkEntries entries + 1
  | .held _ => 1
def uptoBulkAll {H : Type} : List (DataW H) → Nat
  | [] => 0
  | d :: r => uptoBulk d + uptoBulkAll r
def uptoBulkEntries {H : Type} : List (Lit × DataW H) → Nat
  | [] => 0
  | x :: r => uptoBulkEntry x + uptoBulkEntries r
def uptoBulkEntry {H : Type} : Lit × DataW H → Nat
  | (.string bytes, d) => bytes.length + uptoBulk d + 1
  | (_, d) => uptoBulk d + 1
 end
def uptoSmall : (H : Type) → List (DataW H) → Bool := fun _ ds => decide (uptoBulkAll ds ≤ 1048576)
def OpenSpec.upto (s : _root_.Go.ChangeSpec) : _root_.Go.OpenSpec := { _root_.Go.OpenSpec.ofChange s with cond := some uptoSmall }

/-- 'beaconrykeep.CommitOne', WHERE WHAT IT READS IS OF BULK AT MOST 1048576: true; the input reads as it did. -/
def commitOneUptoRow : OpenClaim := { program := "ytifbjnlbohigkaa", sum := "96fa5e2d5fcb136f18c4dc88b411b1c482939894fc5b9e4a04cb6f4658830c72", func := "beaconry/beaconrykeep.CommitOne", spec := "commitOne", unfollowed := true, recurses := true, apart := false, narrowed := true }
def CommitOneUptoSaid : Prop := commitOneUptoRow.holds Try.pinned (OpenSpec.upto commitOneSpec)

/-- 'beaconrykeep.CommitStays', WHERE WHAT IT READS IS OF BULK AT MOST 1048576: true; the input reads as it did. -/
def commitStaysUptoRow : OpenClaim := { program := "ytifbjnlbohigkaa", sum := "96fa5e2d5fcb136f18c4dc88b411b1c482939894fc5b9e4a04cb6f4658830c72", func := "beaconry/beaconrykeep.CommitStays", spec := "commitStays", unfollowed := true, recurses := true, apart := false, narrowed := true }
def CommitStaysUptoSaid : Prop := commitStaysUptoRow.holds Try.pinned (OpenSpec.upto commitStaysSpec)

/-- 'beaconrykeep.CommitStuck', WHERE WHAT IT READS IS OF BULK AT MOST 1048576: true; the input reads as it did. -/
def commitStuckUptoRow : OpenClaim := { program := "ytifbjnlbohigkaa", sum := "96fa5e2d5fcb136f18c4dc88b411b1c482939894fc5b9e4a04cb6f4658830c72", func := "beaconry/beaconrykeep.CommitStuck", spec := "commitStuck", unfollowed := true, recurses := true, apart := false, narrowed := true }
def CommitStuckUptoSaid : Prop := commitStuckUptoRow.holds Try.pinned (OpenSpec.upto commitStuckSpec)

/-- 'beaconrykeep.CommitEnds', WHERE WHAT IT READS IS OF BULK AT MOST 1048576: true; the input reads as it did. -/
def commitEndsUptoRow : OpenClaim := { program := "ytifbjnlbohigkaa", sum := "96fa5e2d5fcb136f18c4dc88b411b1c482939894fc5b9e4a04cb6f4658830c72", func := "beaconry/beaconrykeep.CommitEnds", spec := "commitEnds", unfollowed := true, recurses := true, apart := false, narrowed := true }
def CommitEndsUptoSaid : Prop := commitEndsUptoRow.holds Try.pinned (OpenSpec.upto commitEndsSpec)

end Rows
end Go.Proofs.Ytifbjnlbohigkaa
