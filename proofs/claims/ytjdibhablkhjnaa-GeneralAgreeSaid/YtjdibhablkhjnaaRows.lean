/-
  No cell of these rows narrows 'for every input' (looked for: loops, veiled, ifaces, maps, wideKeys, modest, calm, conditions, laid).
  DERIVED. THE GIVEN ROWS OF THIS SEAT. 2 by the template 'for every input the law returns true; each argument reads behind the call as it read before'; 0 by the template 'total and deterministic' (their statements: YtjdibhablkhjnaaTotals.lean).
  GIVEN WITH THE SEED: the statements are not yours to turn. If you find one false, say at which input.
  Laid BY PROGRAM, IN A SANDBOX (cutbox-rows.mjs): the forced cells as the released guide's own fill.sh prints them over the translation 9bc86291916d4507… (all of the seat's roots in one cut). By AI agents, Wed Nov 11 2026. No macro, syntax, notation, axiom, sorry.
-/
import Derived.Test.YtjdibhablkhjnaaChecked
import GoSem.Claim
import GoSem.ClaimJoined
import GoSem.ClaimMapViews
import Derived.JoinedTies
import Derived.KernelRfl
namespace Go.Proofs.Ytjdibhablkhjnaa
/- THE CELL 'sum', in the pinned program and in every row, IS THE sha256 OF THE DUMP (.gsa) THAT YtjdibhablkhjnaaProg.lean LOADS. Nothing in Lean hashes anything: it is a label: what it is worth is what the hold of that sum in a sandbox is worth. -/
noncomputable def Try.pinned : Pinned := { name := "ytjdibhablkhjnaa", sum := "9bc86291916d4507909202e840ed6cc937d36308afb405f365388122fe1b291c", checked := Try.checked }
namespace Rows
def none {H : Type} : Left H := { results := [], args := [] }

/-- 'beaconrykeep.GeneralAgree': WHATEVER THE INPUT: true; the input reads as it did. -/
def generalAgreeSpec : ChangeSpec := { name := "generalAgree", fn := fun _ => fun
  | [d1, d2, d3, d4, d5] => { results := [.lit (.bool true)], args := [d1, d2, d3, d4, d5] }
  | _ => none }
def generalAgreeRow : OpenClaim := { program := "ytjdibhablkhjnaa", sum := "9bc86291916d4507909202e840ed6cc937d36308afb405f365388122fe1b291c", func := "beaconry/beaconrykeep.GeneralAgree", spec := "generalAgree", recurses := true, apart := false }
def GeneralAgreeSaid : Prop := generalAgreeRow.holds Try.pinned (OpenSpec.ofChange generalAgreeSpec)

/-- ITS FALSE NEIGHBOUR: 'it returns false'. Refute it at one input. -/
def generalAgreeWrong : ChangeSpec := { name := "generalAgree", fn := fun _ => fun
  | [d1, d2, d3, d4, d5] => { results := [.lit (.bool false)], args := [d1, d2, d3, d4, d5] }
  | _ => none }
def GeneralAgreeWrongFalsely : Prop := generalAgreeRow.holds Try.pinned (OpenSpec.ofChange generalAgreeWrong)

/-- 'beaconrykeep.GeneralTrue': WHATEVER THE INPUT: true; the input reads as it did. -/
def generalTrueSpec : ChangeSpec := { name := "generalTrue", fn := fun _ => fun
  | [d1, d2, d3, d4, d5] => { results := [.lit (.bool true)], args := [d1, d2, d3, d4, d5] }
  | _ => none }
def generalTrueRow : OpenClaim := { program := "ytjdibhablkhjnaa", sum := "9bc86291916d4507909202e840ed6cc937d36308afb405f365388122fe1b291c", func := "beaconry/beaconrykeep.GeneralTrue", spec := "generalTrue", recurses := true, apart := false }
def GeneralTrueSaid : Prop := generalTrueRow.holds Try.pinned (OpenSpec.ofChange generalTrueSpec)

/-- ITS FALSE NEIGHBOUR: 'it returns false'. Refute it at one input. -/
def generalTrueWrong : ChangeSpec := { name := "generalTrue", fn := fun _ => fun
  | [d1, d2, d3, d4, d5] => { results := [.lit (.bool false)], args := [d1, d2, d3, d4, d5] }
  | _ => none }
def GeneralTrueWrongFalsely : Prop := generalTrueRow.holds Try.pinned (OpenSpec.ofChange generalTrueWrong)

/- THE SECOND FORM. 'bulk': how many values and letters a reading holds, each counted each time it is reached (what is shared counts as often as it is met; a slice's spare places count too). A statement '..UptoSaid' is the law's where the arguments, and the package variables that the reading takes, are together of bulk at most 1048576: NARROWER than '..Said'. Prove '..Said' where nothing that the law and all that it calls make is longer than what came in: it says more and counts as full. Else prove '..UptoSaid'. A law counts once. -/
mutual
def uptoBulk {H : Type} : DataW H → Nat
  | .lit (.string bytes) => bytes.length + 1
  | .lit _ => 1
  | .nil => 1
  | .ptr d => uptoBulk d + 1
  | .slice elems spare => uptoBulkAll elems + uptoBulkAll spare + 1
  | .agg parts => uptoBulkAll parts + 1
  | .iface _ d => uptoBulk d + 1
  | .map entries => uptoBulkEntries entries + 1
  | .held _ => 1
def uptoBulkAll {H : Type} : List (DataW H) → Nat
  | [] => 0
  | d :: r => uptoBulk d + uptoBulkAll r
def uptoBulkEntries {H : Type} : List (Lit × DataW H) → Nat
  | [] => 0
  | x :: r => uptoBulkEntry x + uptoBulkEntries r
def uptoBulkEntry {H : Type} : Lit × DataW H → Nat
  | (.string bytes, d) => bytes.length + uptoBulk d + 1
  | (_, d) => uptoBulk d + 1
 end
def uptoSmall : (H : Type) → List (DataW H) → Bool := fun _ ds => decide (uptoBulkAll ds ≤ 1048576)
def OpenSpec.upto (s : _root_.Go.ChangeSpec) : _root_.Go.OpenSpec := { _root_.Go.OpenSpec.ofChange s with cond := some uptoSmall }

/-- 'beaconrykeep.GeneralAgree', WHERE WHAT IT READS IS OF BULK AT MOST 1048576: true; the input reads as it did. -/
def generalAgreeUptoRow : OpenClaim := { program := "ytjdibhablkhjnaa", sum := "9bc86291916d4507909202e840ed6cc937d36308afb405f365388122fe1b291c", func := "beaconry/beaconrykeep.GeneralAgree", spec := "generalAgree", recurses := true, apart := false, narrowed := true }
def GeneralAgreeUptoSaid : Prop := generalAgreeUptoRow.holds Try.pinned (OpenSpec.upto generalAgreeSpec)

/-- 'beaconrykeep.GeneralTrue', WHERE WHAT IT READS IS OF BULK AT MOST 1048576: true; the input reads as it did. -/
def generalTrueUptoRow : OpenClaim := { program := "ytjdibhablkhjnaa", sum := "9bc86291916d4507909202e840ed6cc937d36308afb405f365388122fe1b291c", func := "beaconry/beaconrykeep.GeneralTrue", spec := "generalTrue", recurses := true, apart := false, narrowed := true }
def GeneralTrueUptoSaid : Prop := generalTrueUptoRow.holds Try.pinned (OpenSpec.upto generalTrueSpec)

end Rows
end Go.Proofs.Ytjdibhablkhjnaa
