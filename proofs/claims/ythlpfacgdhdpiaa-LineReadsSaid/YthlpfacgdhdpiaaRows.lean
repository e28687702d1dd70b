/-
  No cell of these rows narrows 'for every input' (looked for: loops, veiled, ifaces, maps, wideKeys, modest, calm, conditions, laid).
  DERIVED. THE GIVEN ROWS OF THIS SEAT. 4 by the template 'for every input the law returns true; each argument reads behind the call as it read before'; 0 by the template 'total and deterministic' (their statements: YthlpfacgdhdpiaaTotals.lean).
  GIVEN WITH THE SEED: the statements are not yours to turn. If you find one false, say at which input.
  Laid BY PROGRAM, IN A SANDBOX (cutbox-rows.mjs): the forced cells as the released guide's own fill.sh prints them over the translation 2be0f9db08b36f82… (all of the seat's roots in one cut). By AI agents, Wed Nov 11 2026. No macro, syntax, notation, axiom, sorry.
-/
import Derived.Test.YthlpfacgdhdpiaaChecked
import GoSem.Claim
import GoSem.ClaimJoined
import GoSem.ClaimMapViews
import Derived.JoinedTies
import Derived.KernelRfl
namespace Go.Proofs.Ythlpfacgdhdpiaa
/- THE CELL 'sum', in the pinned program and in every row, IS THE sha256 OF THE DUMP (.gsa) THAT YthlpfacgdhdpiaaProg.lean LOADS. Nothing in Lean hashes anything: it is a label: what it is worth is what the hold of that sum in a sandbox is worth. -/
noncomputable def Try.pinned : Pinned := { name := "ythlpfacgdhdpiaa", sum := "2be0f9db08b36f8258ca090fb8a6eed22fe60fe09636730a613361bcd8d9b41c", checked := Try.checked }
namespace Rows
def none {H : Type} : Left H := { results := [], args := [] }

/-- 'beaconrykeep.LineReads': WHATEVER THE INPUT: true; the input reads as it did. -/
def lineReadsSpec : ChangeSpec := { name := "lineReads", fn := fun _ => fun
  | [d1, d2] => { results := [.lit (.bool true)], args := [d1, d2] }
  | _ => none }
def lineReadsRow : OpenClaim := { program := "ythlpfacgdhdpiaa", sum := "2be0f9db08b36f8258ca090fb8a6eed22fe60fe09636730a613361bcd8d9b41c", func := "beaconry/beaconrykeep.LineReads", spec := "lineReads", unfollowed := true, recurses := true, plainKeys := false, apart := false }
def LineReadsSaid : Prop := lineReadsRow.holds Try.pinned (OpenSpec.ofChange lineReadsSpec)

/-- ITS FALSE NEIGHBOUR: 'it returns false'. Refute it at one input. -/
def lineReadsWrong : ChangeSpec := { name := "lineReads", fn := fun _ => fun
  | [d1, d2] => { results := [.lit (.bool false)], args := [d1, d2] }
  | _ => none }
def LineReadsWrongFalsely : Prop := lineReadsRow.holds Try.pinned (OpenSpec.ofChange lineReadsWrong)

/-- 'beaconrykeep.LineAlone': WHATEVER THE INPUT: true; the input reads as it did. -/
def lineAloneSpec : ChangeSpec := { name := "lineAlone", fn := fun _ => fun
  | [d1, d2] => { results := [.lit (.bool true)], args := [d1, d2] }
  | _ => none }
def lineAloneRow : OpenClaim := { program := "ythlpfacgdhdpiaa", sum := "2be0f9db08b36f8258ca090fb8a6eed22fe60fe09636730a613361bcd8d9b41c", func := "beaconry/beaconrykeep.LineAlone", spec := "lineAlone", unfollowed := true, recurses := true, plainKeys := false, apart := false }
def LineAloneSaid : Prop := lineAloneRow.holds Try.pinned (OpenSpec.ofChange lineAloneSpec)

/-- ITS FALSE NEIGHBOUR: 'it returns false'. Refute it at one input. -/
def lineAloneWrong : ChangeSpec := { name := "lineAlone", fn := fun _ => fun
  | [d1, d2] => { results := [.lit (.bool false)], args := [d1, d2] }
  | _ => none }
def LineAloneWrongFalsely : Prop := lineAloneRow.holds Try.pinned (OpenSpec.ofChange lineAloneWrong)

/-- 'beaconrykeep.LineEach': WHATEVER THE INPUT: true; the input reads as it did. -/
def lineEachSpec : ChangeSpec := { name := "lineEach", fn := fun _ => fun
  | [d] => { results := [.lit (.bool true)], args := [d] }
  | _ => none }
def lineEachRow : OpenClaim := { program := "ythlpfacgdhdpiaa", sum := "2be0f9db08b36f8258ca090fb8a6eed22fe60fe09636730a613361bcd8d9b41c", func := "beaconry/beaconrykeep.LineEach", spec := "lineEach", unfollowed := true, recurses := true, plainKeys := false, apart := false }
def LineEachSaid : Prop := lineEachRow.holds Try.pinned (OpenSpec.ofChange lineEachSpec)

/-- ITS FALSE NEIGHBOUR: 'it returns false'. Refute it at one input. -/
def lineEachWrong : ChangeSpec := { name := "lineEach", fn := fun _ => fun
  | [d] => { results := [.lit (.bool false)], args := [d] }
  | _ => none }
def LineEachWrongFalsely : Prop := lineEachRow.holds Try.pinned (OpenSpec.ofChange lineEachWrong)

/-- 'beaconrykeep.LineOrder': WHATEVER THE INPUT: true; the input reads as it did. -/
def lineOrderSpec : ChangeSpec := { name := "lineOrder", fn := fun _ => fun
  | [d] => { results := [.lit (.bool true)], args := [d] }
  | _ => none }
def lineOrderRow : OpenClaim := { program := "ythlpfacgdhdpiaa", sum := "2be0f9db08b36f8258ca090fb8a6eed22fe60fe09636730a613361bcd8d9b41c", func := "beaconry/beaconrykeep.LineOrder", spec := "lineOrder", unfollowed := true, recurses := true, plainKeys := false, apart := false }
def LineOrderSaid : Prop := lineOrderRow.holds Try.pinned (OpenSpec.ofChange lineOrderSpec)

/-- ITS FALSE NEIGHBOUR: 'it returns false'. Refute it at one input. -/
def lineOrderWrong : ChangeSpec := { name := "lineOrder", fn := fun _ => fun
  | [d] => { results := [.lit (.bool false)], args := [d] }
  | _ => none }
def LineOrderWrongFalsely : Prop := lineOrderRow.holds Try.pinned (OpenSpec.ofChange lineOrderWrong)

/- THE SECOND FORM. 'bulk': how many values and letters a reading holds, each counted each time it is reached (what is shared counts as often as it is met; a slice's spare places count too). A statement '..UptoSaid' is the law's where the arguments, and the package variables that the reading takes, are together of bulk at most 1048576: NARROWER than '..Said'. Prove '..Said' where nothing that the law and all that it calls make is longer than what came in: it says more and counts as full. Else prove '..UptoSaid'. A law counts once. -/
mutual
def uptoBulk {H : Type} : DataW H → Nat
  | .lit (.string bytes) => bytes.length + 1
  | .lit _ => 1
  | .nil => 1
  | .ptr d => uptoBulk d + 1
  | .slice elems spare => uptoBulkAll elems + uptoBulkAll spare + 1
  | .agg parts => uptoBulkAll parts + 1
  | .iface _ d => uptoBulk d + 1
  | .map entries => uptoBulkEntries entries + 1
  | .held _ => 1
def uptoBulkAll {H : Type} : List (DataW H) → Nat
  | [] => 0
  | d :: r => uptoBulk d + uptoBulkAll r
def uptoBulkEntries {H : Type} : List (Lit × DataW H) → Nat
  | [] => 0
  | x :: r => uptoBulkEntry x + uptoBulkEntries r
def uptoBulkEntry {H : Type} : Lit × DataW H → Nat
  | (.string bytes, d) => bytes.length + uptoBulk d + 1
  | (_, d) => uptoBulk d + 1
 end
def uptoSmall : (H : Type) → List (DataW H) → Bool := fun _ ds => decide (uptoBulkAll ds ≤ 1048576)
def OpenSpec.upto (s : _root_.Go.ChangeSpec) : _root_.Go.OpenSpec := { _root_.Go.OpenSpec.ofChange s with cond := some uptoSmall }

/-- 'beaconrykeep.LineReads', WHERE WHAT IT READS IS OF BULK AT MOST 1048576: true; the input reads as it did. -/
def lineReadsUptoRow : OpenClaim := { program := "ythlpfacgdhdpiaa", sum := "2be0f9db08b36f8258ca090fb8a6eed22fe60fe09636730a613361bcd8d9b41c", func := "beaconry/beaconrykeep.LineReads", spec := "lineReads", unfollowed := true, recurses := true, plainKeys := false, apart := false, narrowed := true }
def LineReadsUptoSaid : Prop := lineReadsUptoRow.holds Try.pinned (OpenSpec.upto lineReadsSpec)

/-- 'beaconrykeep.LineAlone', WHERE WHAT IT READS IS OF BULK AT MOST 1048576: true; the input reads as it did. -/
def lineAloneUptoRow : OpenClaim := { program := "ythlpfacgdhdpiaa", sum := "2be0f9db08b36f8258ca090fb8a6eed22fe60fe09636730a613361bcd8d9b41c", func := "beaconry/beaconrykeep.LineAlone", spec := "lineAlone", unfollowed := true, recurses := true, plainKeys := false, apart := false, narrowed := true }
def LineAloneUptoSaid : Prop := lineAloneUptoRow.holds Try.pinned (OpenSpec.upto lineAloneSpec)

/-- 'beaconrykeep.LineEach', WHERE WHAT IT READS IS OF BULK AT MOST 1048576: true; the input reads as it did. -/
def lineEachUptoRow : OpenClaim := { program := "ythlpfacgdhdpiaa", sum := "2be0f9db08b36f8258ca090fb8a6eed22fe60fe09636730a613361bcd8d9b41c", func := "beaconry/beaconrykeep.LineEach", spec := "lineEach", unfollowed := true, recurses := true, plainKeys := false, apart := false, narrowed := true }
def LineEachUptoSaid : Prop := lineEachUptoRow.holds Try.pinned (OpenSpec.upto lineEachSpec)

/-- 'beaconrykeep.LineOrder', WHERE WHAT IT READS IS OF BULK AT MOST 1048576: true; the input reads as it did. -/
def lineOrderUptoRow : OpenClaim := { program := "ythlpfacgdhdpiaa", sum := "2be0f9db08b36f8258ca090fb8a6eed22fe60fe09636730a613361bcd8d9b41c", func := "beaconry/beaconrykeep.LineOrder", spec := "lineOrder", unfollowed := true, recurses := true, plainKeys := false, apart := false, narrowed := true }
def LineOrderUptoSaid : Prop := lineOrderUptoRow.holds Try.pinned (OpenSpec.upto lineOrderSpec)

end Rows
end Go.Proofs.Ythlpfacgdhdpiaa
