/-
  No cell of these rows narrows 'for every input' (looked for: loops, veiled, ifaces, maps, wideKeys, modest, calm, conditions, laid).
  DERIVED. THE GIVEN ROWS OF THIS SEAT. 4 by the template 'for every input the law returns true; each argument reads behind the call as it read before'; 0 by the template 'total and deterministic' (their statements: YtdgegbdkimdpjaaTotals.lean).
  GIVEN WITH THE SEED: the statements are not yours to turn. If you find one false, say at which input.
  Laid BY PROGRAM, IN A SANDBOX (cutbox-rows.mjs): the forced cells as the released guide's own fill.sh prints them over the translation 374524d5596e1f90… (all of the seat's roots in one cut). By AI agents, Wed Nov 11 2026. No macro, syntax, notation, axiom, sorry.
-/
import Derived.Test.YtdgegbdkimdpjaaChecked
import GoSem.Claim
import GoSem.ClaimJoined
import GoSem.ClaimMapViews
import Derived.JoinedTies
import Derived.KernelRfl
namespace Go.Proofs.Ytdgegbdkimdpjaa
/- THE CELL 'sum', in the pinned program and in every row, IS THE sha256 OF THE DUMP (.gsa) THAT YtdgegbdkimdpjaaProg.lean LOADS. Nothing in Lean hashes anything: it is a label: what it is worth is what the hold of that sum in a sandbox is worth. -/
noncomputable def Try.pinned : Pinned := { name := "ytdgegbdkimdpjaa", sum := "374524d5596e1f904d3b0b0cd5a0b442a5dded8be8c490217962cb78e7610df6", checked := Try.checked }
namespace Rows
def none {H : Type} : Left H := { results := [], args := [] }

/-- 'beaconrykeep.MergeSame': WHATEVER THE INPUT: true; the input reads as it did. -/
def mergeSameSpec : ChangeSpec := { name := "mergeSame", fn := fun _ => fun
  | [d1, d2] => { results := [.lit (.bool true)], args := [d1, d2] }
  | _ => none }
def mergeSameRow : OpenClaim := { program := "ytdgegbdkimdpjaa", sum := "374524d5596e1f904d3b0b0cd5a0b442a5dded8be8c490217962cb78e7610df6", func := "beaconry/beaconrykeep.MergeSame", spec := "mergeSame", unfollowed := true, recurses := true, plainKeys := false, apart := false }
def MergeSameSaid : Prop := mergeSameRow.holds Try.pinned (OpenSpec.ofChange mergeSameSpec)

/-- ITS FALSE NEIGHBOUR: 'it returns false'. Refute it at one input. -/
def mergeSameWrong : ChangeSpec := { name := "mergeSame", fn := fun _ => fun
  | [d1, d2] => { results := [.lit (.bool false)], args := [d1, d2] }
  | _ => none }
def MergeSameWrongFalsely : Prop := mergeSameRow.holds Try.pinned (OpenSpec.ofChange mergeSameWrong)

/-- 'beaconrykeep.MergeCount': WHATEVER THE INPUT: true; the input reads as it did. -/
def mergeCountSpec : ChangeSpec := { name := "mergeCount", fn := fun _ => fun
  | [d1, d2] => { results := [.lit (.bool true)], args := [d1, d2] }
  | _ => none }
def mergeCountRow : OpenClaim := { program := "ytdgegbdkimdpjaa", sum := "374524d5596e1f904d3b0b0cd5a0b442a5dded8be8c490217962cb78e7610df6", func := "beaconry/beaconrykeep.MergeCount", spec := "mergeCount", unfollowed := true, recurses := true, plainKeys := false, apart := false }
def MergeCountSaid : Prop := mergeCountRow.holds Try.pinned (OpenSpec.ofChange mergeCountSpec)

/-- ITS FALSE NEIGHBOUR: 'it returns false'. Refute it at one input. -/
def mergeCountWrong : ChangeSpec := { name := "mergeCount", fn := fun _ => fun
  | [d1, d2] => { results := [.lit (.bool false)], args := [d1, d2] }
  | _ => none }
def MergeCountWrongFalsely : Prop := mergeCountRow.holds Try.pinned (OpenSpec.ofChange mergeCountWrong)

/-- 'beaconrykeep.MergeWins': WHATEVER THE INPUT: true; the input reads as it did. -/
def mergeWinsSpec : ChangeSpec := { name := "mergeWins", fn := fun _ => fun
  | [d1, d2, d3, d4, d5] => { results := [.lit (.bool true)], args := [d1, d2, d3, d4, d5] }
  | _ => none }
def mergeWinsRow : OpenClaim := { program := "ytdgegbdkimdpjaa", sum := "374524d5596e1f904d3b0b0cd5a0b442a5dded8be8c490217962cb78e7610df6", func := "beaconry/beaconrykeep.MergeWins", spec := "mergeWins", unfollowed := true, recurses := true, plainKeys := false, apart := false }
def MergeWinsSaid : Prop := mergeWinsRow.holds Try.pinned (OpenSpec.ofChange mergeWinsSpec)

/-- ITS FALSE NEIGHBOUR: 'it returns false'. Refute it at one input. -/
def mergeWinsWrong : ChangeSpec := { name := "mergeWins", fn := fun _ => fun
  | [d1, d2, d3, d4, d5] => { results := [.lit (.bool false)], args := [d1, d2, d3, d4, d5] }
  | _ => none }
def MergeWinsWrongFalsely : Prop := mergeWinsRow.holds Try.pinned (OpenSpec.ofChange mergeWinsWrong)

/-- 'beaconrykeep.MergeRise': WHATEVER THE INPUT: true; the input reads as it did. -/
def mergeRiseSpec : ChangeSpec := { name := "mergeRise", fn := fun _ => fun
  | [d1, d2, d3] => { results := [.lit (.bool true)], args := [d1, d2, d3] }
  | _ => none }
def mergeRiseRow : OpenClaim := { program := "ytdgegbdkimdpjaa", sum := "374524d5596e1f904d3b0b0cd5a0b442a5dded8be8c490217962cb78e7610df6", func := "beaconry/beaconrykeep.MergeRise", spec := "mergeRise", unfollowed := true, recurses := true, plainKeys := false, apart := false }
def MergeRiseSaid : Prop := mergeRiseRow.holds Try.pinned (OpenSpec.ofChange mergeRiseSpec)

/-- ITS FALSE NEIGHBOUR: 'it returns false'. Refute it at one input. -/
def mergeRiseWrong : ChangeSpec := { name := "mergeRise", fn := fun _ => fun
  | [d1, d2, d3] => { results := [.lit (.bool false)], args := [d1, d2, d3] }
  | _ => none }
def MergeRiseWrongFalsely : Prop := mergeRiseRow.holds Try.pinned (OpenSpec.ofChange mergeRiseWrong)

/- THE SECOND FORM. 'bulk': how many values and letters a reading holds, each counted each time it is reached (what is shared counts as often as it is met; a slice's spare places count too). A statement '..UptoSaid' is the law's where the arguments, and the package variables that the reading takes, are together of bulk at most 1048576: NARROWER than '..Said'. Prove '..Said' where nothing that the law and all that it calls make is longer than what came in: it says more and counts as full. Else prove '..UptoSaid'. A law counts once. -/
mutual
def uptoBulk {H : Type} : DataW H → Nat
  | .lit (.string bytes) => bytes.length + 1
  | .lit _ => 1
  | .nil => 1
  | .ptr d => uptoBulk d + 1
  | .slice elems spare => uptoBulkAll elems + uptoBulkAll spare + 1
  | .agg parts => uptoBulkAll parts + 1
  | .iface _ d => uptoBulk d + 1
  | .map entries => uptoBulkEntries entries + 1
  | .held _ => 1
def uptoBulkAll {H : Type} : List (DataW H) → Nat
  | [] => 0
  | d :: r => uptoBulk d + uptoBulkAll r
def uptoBulkEntries {H : Type} : List (Lit × DataW H) → Nat
  | [] => 0
  | x :: r => uptoBulkEntry x + uptoBulkEntries r
def uptoBulkEntry {H : Type} : Lit × DataW H → Nat
  | (.string bytes, d) => bytes.length + uptoBulk d + 1
  | (_, d) => uptoBulk d + 1
 end
def uptoSmall : (H : Type) → List (DataW H) → Bool := fun _ ds => decide (uptoBulkAll ds ≤ 1048576)
def OpenSpec.upto (s : _root_.Go.ChangeSpec) : _root_.Go.OpenSpec := { _root_.Go.OpenSpec.ofChange s with cond := some uptoSmall }

/-- 'beaconrykeep.MergeSame', WHERE WHAT IT READS IS OF BULK AT MOST 1048576: true; the input reads as it did. -/
def mergeSameUptoRow : OpenClaim := { program := "ytdgegbdkimdpjaa", sum := "374524d5596e1f904d3b0b0cd5a0b442a5dded8be8c490217962cb78e7610df6", func := "beaconry/beaconrykeep.MergeSame", spec := "mergeSame", unfollowed := true, recurses := true, plainKeys := false, apart := false, narrowed := true }
def MergeSameUptoSaid : Prop := mergeSameUptoRow.holds Try.pinned (OpenSpec.upto mergeSameSpec)

/-- 'beaconrykeep.MergeCount', WHERE WHAT IT READS IS OF BULK AT MOST 1048576: true; the input reads as it did. -/
def mergeCountUptoRow : OpenClaim := { program := "ytdgegbdkimdpjaa", sum := "374524d5596e1f904d3b0b0cd5a0b442a5dded8be8c490217962cb78e7610df6", func := "beaconry/beaconrykeep.MergeCount", spec := "mergeCount", unfollowed := true, recurses := true, plainKeys := false, apart := false, narrowed := true }
def MergeCountUptoSaid : Prop := mergeCountUptoRow.holds Try.pinned (OpenSpec.upto mergeCountSpec)

/-- 'beaconrykeep.MergeWins', WHERE WHAT IT READS IS OF BULK AT MOST 1048576: true; the input reads as it did. -/
def mergeWinsUptoRow : OpenClaim := { program := "ytdgegbdkimdpjaa", sum := "374524d5596e1f904d3b0b0cd5a0b442a5dded8be8c490217962cb78e7610df6", func := "beaconry/beaconrykeep.MergeWins", spec := "mergeWins", unfollowed := true, recurses := true, plainKeys := false, apart := false, narrowed := true }
def MergeWinsUptoSaid : Prop := mergeWinsUptoRow.holds Try.pinned (OpenSpec.upto mergeWinsSpec)

/-- 'beaconrykeep.MergeRise', WHERE WHAT IT READS IS OF BULK AT MOST 1048576: true; the input reads as it did. -/
def mergeRiseUptoRow : OpenClaim := { program := "ytdgegbdkimdpjaa", sum := "374524d5596e1f904d3b0b0cd5a0b442a5dded8be8c490217962cb78e7610df6", func := "beaconry/beaconrykeep.MergeRise", spec := "mergeRise", unfollowed := true, recurses := true, plainKeys := false, apart := false, narrowed := true }
def MergeRiseUptoSaid : Prop := mergeRiseUptoRow.holds Try.pinned (OpenSpec.upto mergeRiseSpec)

end Rows
end Go.Proofs.Ytdgegbdkimdpjaa
