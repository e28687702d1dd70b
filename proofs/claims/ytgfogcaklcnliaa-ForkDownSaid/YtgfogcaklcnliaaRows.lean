/-
  No cell of these rows narrows 'for every input' (looked for: loops, veiled, ifaces, maps, wideKeys, modest, calm, conditions, laid).
  DERIVED. THE GIVEN ROWS OF THIS SEAT. 4 by the template 'for every input the law returns true; each argument reads behind the call as it read before'; 0 by the template 'total and deterministic' (their statements: YtgfogcaklcnliaaTotals.lean).
  GIVEN WITH THE SEED: the statements are not yours to turn. If you find one false, say at which input.
  Laid BY PROGRAM, IN A SANDBOX (cutbox-rows.mjs): the forced cells as the released guide's own fill.sh prints them over the translation 2d854570b723f07d… (all of the seat's roots in one cut). By AI agents, Wed Nov 11 2026. No macro, syntax, notation, axiom, sorry.
-/
import Derived.Test.YtgfogcaklcnliaaChecked
import GoSem.Claim
import GoSem.ClaimJoined
import GoSem.ClaimMapViews
import Derived.JoinedTies
import Derived.KernelRfl
namespace Go.Proofs.Ytgfogcaklcnliaa
/- THE CELL 'sum', in the pinned program and in every row, IS THE sha256 OF THE DUMP (.gsa) THAT YtgfogcaklcnliaaProg.lean LOADS. Nothing in Lean hashes anything: it is a label: what it is worth is what the hold of that sum in a sandbox is worth. -/
noncomputable def Try.pinned : Pinned := { name := "ytgfogcaklcnliaa", sum := "2d854570b723f07dcf804cbeed767ba2202af014572fc16fe4f46be53bcf7346", checked := Try.checked }
namespace Rows
def none {H : Type} : Left H := { results := [], args := [] }

/-- 'beaconrykeep.ForkLow': WHATEVER THE INPUT: true; the input reads as it did. -/
def forkLowSpec : ChangeSpec := { name := "forkLow", fn := fun _ => fun
  | [d1, d2] => { results := [.lit (.bool true)], args := [d1, d2] }
  | _ => none }
def forkLowRow : OpenClaim := { program := "ytgfogcaklcnliaa", sum := "2d854570b723f07dcf804cbeed767ba2202af014572fc16fe4f46be53bcf7346", func := "beaconry/beaconrykeep.ForkLow", spec := "forkLow", unfollowed := true, recurses := true, apart := false }
def ForkLowSaid : Prop := forkLowRow.holds Try.pinned (OpenSpec.ofChange forkLowSpec)

/-- ITS FALSE NEIGHBOUR: 'it returns false'. Refute it at one input. -/
def forkLowWrong : ChangeSpec := { name := "forkLow", fn := fun _ => fun
  | [d1, d2] => { results := [.lit (.bool false)], args := [d1, d2] }
  | _ => none }
def ForkLowWrongFalsely : Prop := forkLowRow.holds Try.pinned (OpenSpec.ofChange forkLowWrong)

/-- 'beaconrykeep.ForkFair': WHATEVER THE INPUT: true; the input reads as it did. -/
def forkFairSpec : ChangeSpec := { name := "forkFair", fn := fun _ => fun
  | [d1, d2, d3] => { results := [.lit (.bool true)], args := [d1, d2, d3] }
  | _ => none }
def forkFairRow : OpenClaim := { program := "ytgfogcaklcnliaa", sum := "2d854570b723f07dcf804cbeed767ba2202af014572fc16fe4f46be53bcf7346", func := "beaconry/beaconrykeep.ForkFair", spec := "forkFair", unfollowed := true, recurses := true, apart := false }
def ForkFairSaid : Prop := forkFairRow.holds Try.pinned (OpenSpec.ofChange forkFairSpec)

/-- ITS FALSE NEIGHBOUR: 'it returns false'. Refute it at one input. -/
def forkFairWrong : ChangeSpec := { name := "forkFair", fn := fun _ => fun
  | [d1, d2, d3] => { results := [.lit (.bool false)], args := [d1, d2, d3] }
  | _ => none }
def ForkFairWrongFalsely : Prop := forkFairRow.holds Try.pinned (OpenSpec.ofChange forkFairWrong)

/-- 'beaconrykeep.ForkDown': WHATEVER THE INPUT: true; the input reads as it did. -/
def forkDownSpec : ChangeSpec := { name := "forkDown", fn := fun _ => fun
  | [d1, d2, d3, d4] => { results := [.lit (.bool true)], args := [d1, d2, d3, d4] }
  | _ => none }
def forkDownRow : OpenClaim := { program := "ytgfogcaklcnliaa", sum := "2d854570b723f07dcf804cbeed767ba2202af014572fc16fe4f46be53bcf7346", func := "beaconry/beaconrykeep.ForkDown", spec := "forkDown", unfollowed := true, recurses := true, apart := false }
def ForkDownSaid : Prop := forkDownRow.holds Try.pinned (OpenSpec.ofChange forkDownSpec)

/-- ITS FALSE NEIGHBOUR: 'it returns false'. Refute it at one input. -/
def forkDownWrong : ChangeSpec := { name := "forkDown", fn := fun _ => fun
  | [d1, d2, d3, d4] => { results := [.lit (.bool false)], args := [d1, d2, d3, d4] }
  | _ => none }
def ForkDownWrongFalsely : Prop := forkDownRow.holds Try.pinned (OpenSpec.ofChange forkDownWrong)

/-- 'beaconrykeep.ForkTurn': WHATEVER THE INPUT: true; the input reads as it did. -/
def forkTurnSpec : ChangeSpec := { name := "forkTurn", fn := fun _ => fun
  | [d1, d2, d3] => { results := [.lit (.bool true)], args := [d1, d2, d3] }
  | _ => none }
def forkTurnRow : OpenClaim := { program := "ytgfogcaklcnliaa", sum := "2d854570b723f07dcf804cbeed767ba2202af014572fc16fe4f46be53bcf7346", func := "beaconry/beaconrykeep.ForkTurn", spec := "forkTurn", unfollowed := true, recurses := true, apart := false }
def ForkTurnSaid : Prop := forkTurnRow.holds Try.pinned (OpenSpec.ofChange forkTurnSpec)

/-- ITS FALSE NEIGHBOUR: 'it returns false'. Refute it at one input. -/
def forkTurnWrong : ChangeSpec := { name := "forkTurn", fn := fun _ => fun
  | [d1, d2, d3] => { results := [.lit (.bool false)], args := [d1, d2, d3] }
  | _ => none }
def ForkTurnWrongFalsely : Prop := forkTurnRow.holds Try.pinned (OpenSpec.ofChange forkTurnWrong)

/- THE SECOND FORM. 'bulk': how many values and letters a reading holds, each counted each time it is reached (what is shared counts as often as it is met; a slice's spare places count too). A statement '..UptoSaid' is the law's where the arguments, and the package variables that the reading takes, are together of bulk at most 1048576: NARROWER than '..Said'. Prove '..Said' where nothing that the law and all that it calls make is longer than what came in: it says more and counts as full. Else prove '..UptoSaid'. A law counts once. -/
mutual
def uptoBulk {H : Type} : DataW H → Nat
  | .lit (.string bytes) => bytes.length + 1
  | .lit _ => 1
  | .nil => 1
  | .ptr d => uptoBulk d + 1
  | .slice elems spare => uptoBulkAll elems + uptoBulkAll spare + 1
  | .agg parts => uptoBulkAll parts + 1
  | .iface _ d => uptoBulk d + 1
  | .map entries => uptoBulkEntries entries + 1
  | .held _ => 1
def uptoBulkAll {H : Type} : List (DataW H) → Nat
  | [] => 0
  | d :: r => uptoBulk d + uptoBulkAll r
def uptoBulkEntries {H : Type} : List (Lit × DataW H) → Nat
  | [] => 0
  | x :: r => uptoBulkEntry x + uptoBulkEntries r
def uptoBulkEntry {H : Type} : Lit × DataW H → Nat
  | (.string bytes, d) => bytes.length + uptoBulk d + 1
  | (_, d) => uptoBulk d + 1
 end
def uptoSmall : (H : Type) → List (DataW H) → Bool := fun _ ds => decide (uptoBulkAll ds ≤ 1048576)
def OpenSpec.upto (s : _root_.Go.ChangeSpec) : _root_.Go.OpenSpec := { _root_.Go.OpenSpec.ofChange s with cond := some uptoSmall }

/-- 'beaconrykeep.ForkLow', WHERE WHAT IT READS IS OF BULK AT MOST 1048576: true; the input reads as it did. -/
def forkLowUptoRow : OpenClaim := { program := "ytgfogcaklcnliaa", sum := "2d854570b723f07dcf804cbeed767ba2202af014572fc16fe4f46be53bcf7346", func := "beaconry/beaconrykeep.ForkLow", spec := "forkLow", unfollowed := true, recurses := true, apart := false, narrowed := true }
def ForkLowUptoSaid : Prop := forkLowUptoRow.holds Try.pinned (OpenSpec.upto forkLowSpec)

/-- 'beaconrykeep.ForkFair', WHERE WHAT IT READS IS OF BULK AT MOST 1048576: true; the input reads as it did. -/
def forkFairUptoRow : OpenClaim := { program := "ytgfogcaklcnliaa", sum := "2d854570b723f07dcf804cbeed767ba2202af014572fc16fe4f46be53bcf7346", func := "beaconry/beaconrykeep.ForkFair", spec := "forkFair", unfollowed := true, recurses := true, apart := false, narrowed := true }
def ForkFairUptoSaid : Prop := forkFairUptoRow.holds Try.pinned (OpenSpec.upto forkFairSpec)

/-- 'beaconrykeep.ForkDown', WHERE WHAT IT READS IS OF BULK AT MOST 1048576: true; the input reads as it did. -/
def forkDownUptoRow : OpenClaim := { program := "ytgfogcaklcnliaa", sum := "2d854570b723f07dcf804cbeed767ba2202af014572fc16fe4f46be53bcf7346", func := "beaconry/beaconrykeep.ForkDown", spec := "forkDown", unfollowed := true, recurses := true, apart := false, narrowed := true }
def ForkDownUptoSaid : Prop := forkDownUptoRow.holds Try.pinned (OpenSpec.upto forkDownSpec)

/-- 'beaconrykeep.ForkTurn', WHERE WHAT IT READS IS OF BULK AT MOST 1048576: true; the input reads as it did. -/
def forkTurnUptoRow : OpenClaim := { program := "ytgfogcaklcnliaa", sum := "2d854570b723f07dcf804cbeed767ba2202af014572fc16fe4f46be53bcf7346", func := "beaconry/beaconrykeep.ForkTurn", spec := "forkTurn", unfollowed := true, recurses := true, apart := false, narrowed := true }
def ForkTurnUptoSaid : Prop := forkTurnUptoRow.holds Try.pinned (OpenSpec.upto forkTurnSpec)

end Rows
end Go.Proofs.Ytgfogcaklcnliaa
