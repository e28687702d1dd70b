/-
  No cell of these rows narrows 'for every input' (looked for: loops, veiled, ifaces, maps, wideKeys, modest, calm, conditions, laid).
  DERIVED. THE GIVEN ROWS OF THIS SEAT. 5 by the template 'for every input the law returns true; each argument reads behind the call as it read before'; 0 by the template 'total and deterministic' (their statements: YtfcgjmekeonemaaTotals.lean).
  GIVEN WITH THE SEED: the statements are not yours to turn. If you find one false, say at which input.
  Laid BY PROGRAM, IN A SANDBOX (cutbox-rows.mjs): the forced cells as the released guide's own fill.sh prints them over the translation 47873fc3fbb06882… (all of the seat's roots in one cut). By AI agents, Wed Nov 11 2026. No macro, syntax, notation, axiom, sorry.
-/
import Derived.Test.YtfcgjmekeonemaaChecked
import GoSem.Claim
import GoSem.ClaimJoined
import GoSem.ClaimMapViews
import Derived.JoinedTies
import Derived.KernelRfl
namespace Go.Proofs.Ytfcgjmekeonemaa
/- THE CELL 'sum', in the pinned program and in every row, IS THE sha256 OF THE DUMP (.gsa) THAT YtfcgjmekeonemaaProg.lean LOADS. Nothing in Lean hashes anything: it is a label: what it is worth is what the hold of that sum in a sandbox is worth. -/
noncomputable def Try.pinned : Pinned := { name := "ytfcgjmekeonemaa", sum := "47873fc3fbb06882840f6add38814cc110c854f381edde524ca6237a28e620ac", checked := Try.checked }
namespace Rows
def none {H : Type} : Left H := { results := [], args := [] }

/-- 'beaconrykeep.QuietSafe': WHATEVER THE INPUT: true; the input reads as it did. -/
def quietSafeSpec : ChangeSpec := { name := "quietSafe", fn := fun _ => fun
  | [d1, d2] => { results := [.lit (.bool true)], args := [d1, d2] }
  | _ => none }
def quietSafeRow : OpenClaim := { program := "ytfcgjmekeonemaa", sum := "47873fc3fbb06882840f6add38814cc110c854f381edde524ca6237a28e620ac", func := "beaconry/beaconrykeep.QuietSafe", spec := "quietSafe", unfollowed := true, recurses := true, plainKeys := false, apart := false }
def QuietSafeSaid : Prop := quietSafeRow.holds Try.pinned (OpenSpec.ofChange quietSafeSpec)

/-- ITS FALSE NEIGHBOUR: 'it returns false'. Refute it at one input. -/
def quietSafeWrong : ChangeSpec := { name := "quietSafe", fn := fun _ => fun
  | [d1, d2] => { results := [.lit (.bool false)], args := [d1, d2] }
  | _ => none }
def QuietSafeWrongFalsely : Prop := quietSafeRow.holds Try.pinned (OpenSpec.ofChange quietSafeWrong)

/-- 'beaconrykeep.QuietStays': WHATEVER THE INPUT: true; the input reads as it did. -/
def quietStaysSpec : ChangeSpec := { name := "quietStays", fn := fun _ => fun
  | [d1, d2, d3] => { results := [.lit (.bool true)], args := [d1, d2, d3] }
  | _ => none }
def quietStaysRow : OpenClaim := { program := "ytfcgjmekeonemaa", sum := "47873fc3fbb06882840f6add38814cc110c854f381edde524ca6237a28e620ac", func := "beaconry/beaconrykeep.QuietStays", spec := "quietStays", unfollowed := true, recurses := true, plainKeys := false, apart := false }
def QuietStaysSaid : Prop := quietStaysRow.holds Try.pinned (OpenSpec.ofChange quietStaysSpec)

/-- ITS FALSE NEIGHBOUR: 'it returns false'. Refute it at one input. -/
def quietStaysWrong : ChangeSpec := { name := "quietStays", fn := fun _ => fun
  | [d1, d2, d3] => { results := [.lit (.bool false)], args := [d1, d2, d3] }
  | _ => none }
def QuietStaysWrongFalsely : Prop := quietStaysRow.holds Try.pinned (OpenSpec.ofChange quietStaysWrong)

/-- 'beaconrykeep.SnapAll': WHATEVER THE INPUT: true; the input reads as it did. -/
def snapAllSpec : ChangeSpec := { name := "snapAll", fn := fun _ => fun
  | [d1, d2] => { results := [.lit (.bool true)], args := [d1, d2] }
  | _ => none }
def snapAllRow : OpenClaim := { program := "ytfcgjmekeonemaa", sum := "47873fc3fbb06882840f6add38814cc110c854f381edde524ca6237a28e620ac", func := "beaconry/beaconrykeep.SnapAll", spec := "snapAll", unfollowed := true, recurses := true, plainKeys := false, apart := false }
def SnapAllSaid : Prop := snapAllRow.holds Try.pinned (OpenSpec.ofChange snapAllSpec)

/-- ITS FALSE NEIGHBOUR: 'it returns false'. Refute it at one input. -/
def snapAllWrong : ChangeSpec := { name := "snapAll", fn := fun _ => fun
  | [d1, d2] => { results := [.lit (.bool false)], args := [d1, d2] }
  | _ => none }
def SnapAllWrongFalsely : Prop := snapAllRow.holds Try.pinned (OpenSpec.ofChange snapAllWrong)

/-- 'beaconrykeep.SnapDone': WHATEVER THE INPUT: true; the input reads as it did. -/
def snapDoneSpec : ChangeSpec := { name := "snapDone", fn := fun _ => fun
  | [d1, d2] => { results := [.lit (.bool true)], args := [d1, d2] }
  | _ => none }
def snapDoneRow : OpenClaim := { program := "ytfcgjmekeonemaa", sum := "47873fc3fbb06882840f6add38814cc110c854f381edde524ca6237a28e620ac", func := "beaconry/beaconrykeep.SnapDone", spec := "snapDone", unfollowed := true, recurses := true, plainKeys := false, apart := false }
def SnapDoneSaid : Prop := snapDoneRow.holds Try.pinned (OpenSpec.ofChange snapDoneSpec)

/-- ITS FALSE NEIGHBOUR: 'it returns false'. Refute it at one input. -/
def snapDoneWrong : ChangeSpec := { name := "snapDone", fn := fun _ => fun
  | [d1, d2] => { results := [.lit (.bool false)], args := [d1, d2] }
  | _ => none }
def SnapDoneWrongFalsely : Prop := snapDoneRow.holds Try.pinned (OpenSpec.ofChange snapDoneWrong)

/-- 'beaconrykeep.SnapFront': WHATEVER THE INPUT: true; the input reads as it did. -/
def snapFrontSpec : ChangeSpec := { name := "snapFront", fn := fun _ => fun
  | [d1, d2, d3] => { results := [.lit (.bool true)], args := [d1, d2, d3] }
  | _ => none }
def snapFrontRow : OpenClaim := { program := "ytfcgjmekeonemaa", sum := "47873fc3fbb06882840f6add38814cc110c854f381edde524ca6237a28e620ac", func := "beaconry/beaconrykeep.SnapFront", spec := "snapFront", unfollowed := true, recurses := true, plainKeys := false, apart := false }
def SnapFrontSaid : Prop := snapFrontRow.holds Try.pinned (OpenSpec.ofChange snapFrontSpec)

/-- ITS FALSE NEIGHBOUR: 'it returns false'. Refute it at one input. -/
def snapFrontWrong : ChangeSpec := { name := "snapFront", fn := fun _ => fun
  | [d1, d2, d3] => { results := [.lit (.bool false)], args := [d1, d2, d3] }
  | _ => none }
def SnapFrontWrongFalsely : Prop := snapFrontRow.holds Try.pinned (OpenSpec.ofChange snapFrontWrong)

/- THE SECOND FORM. 'bulk': how many values and letters a reading holds, each counted each time it is reached (what is shared counts as often as it is met; a slice's spare places count too). A statement '..UptoSaid' is the law's where the arguments, and the package variables that the reading takes, are together of bulk at most 1048576: NARROWER than '..Said'. Prove '..Said' where nothing that the law and all that it calls make is longer than what came in: it says more and counts as full. Else prove '..UptoSaid'. A law counts once. -/
mutual
def uptoBulk {H : Type} : DataW H → Nat
  | .lit (.string bytes) => bytes.length + 1
  | .lit _ => 1
  | .nil => 1
  | .ptr d => uptoBulk d + 1
  | .slice elems spare => uptoBulkAll elems + uptoBulkAll spare + 1
  | .agg parts => uptoBulkAll parts + 1
  | .iface _ d => uptoBulk d + 1
  | .map entries => uptoBulkEntries entries + 1
  | .held _ => 1
def uptoBulkAll {H : Type} : List (DataW H) → Nat
  | [] => 0
  | d :: r => uptoBulk d + uptoBulkAll r
def uptoBulkEntries {H : Type} : List (Lit × DataW H) → Nat
  | [] => 0
  | x :: r => uptoBulkEntry x + uptoBulkEntries r
def uptoBulkEntry {H : Type} : Lit × DataW H → Nat
  | (.string bytes, d) => bytes.length + uptoBulk d + 1
  | (_, d) => uptoBulk d + 1
 end
def uptoSmall : (H : Type) → List (DataW H) → Bool := fun _ ds => decide (uptoBulkAll ds ≤ 1048576)
def OpenSpec.upto (s : _root_.Go.ChangeSpec) : _root_.Go.OpenSpec := { _root_.Go.OpenSpec.ofChange s with cond := some uptoSmall }

/-- 'beaconrykeep.QuietSafe', WHERE WHAT IT READS IS OF BULK AT MOST 1048576: true; the input reads as it did. -/
def quietSafeUptoRow : OpenClaim := { program := "ytfcgjmekeonemaa", sum := "47873fc3fbb06882840f6add38814cc110c854f381edde524ca6237a28e620ac", func := "beaconry/beaconrykeep.QuietSafe", spec := "quietSafe", unfollowed := true, recurses := true, plainKeys := false, apart := false, narrowed := true }
def QuietSafeUptoSaid : Prop := quietSafeUptoRow.holds Try.pinned (OpenSpec.upto quietSafeSpec)

/-- 'beaconrykeep.QuietStays', WHERE WHAT IT READS IS OF BULK AT MOST 1048576: true; the input reads as it did. -/
def quietStaysUptoRow : OpenClaim := { program := "ytfcgjmekeonemaa", sum := "47873fc3fbb06882840f6add38814cc110c854f381edde524ca6237a28e620ac", func := "beaconry/beaconrykeep.QuietStays", spec := "quietStays", unfollowed := true, recurses := true, plainKeys := false, apart := false, narrowed := true }
def QuietStaysUptoSaid : Prop := quietStaysUptoRow.holds Try.pinned (OpenSpec.upto quietStaysSpec)

/-- 'beaconrykeep.SnapAll', WHERE WHAT IT READS IS OF BULK AT MOST 1048576: true; the input reads as it did. -/
def snapAllUptoRow : OpenClaim := { program := "ytfcgjmekeonemaa", sum := "47873fc3fbb06882840f6add38814cc110c854f381edde524ca6237a28e620ac", func := "beaconry/beaconrykeep.SnapAll", spec := "snapAll", unfollowed := true, recurses := true, plainKeys := false, apart := false, narrowed := true }
def SnapAllUptoSaid : Prop := snapAllUptoRow.holds Try.pinned (OpenSpec.upto snapAllSpec)

/-- 'beaconrykeep.SnapDone', WHERE WHAT IT READS IS OF BULK AT MOST 1048576: true; the input reads as it did. -/
def snapDoneUptoRow : OpenClaim := { program := "ytfcgjmekeonemaa", sum := "47873fc3fbb06882840f6add38814cc110c854f381edde524ca6237a28e620ac", func := "beaconry/beaconrykeep.SnapDone", spec := "snapDone", unfollowed := true, recurses := true, plainKeys := false, apart := false, narrowed := true }
def SnapDoneUptoSaid : Prop := snapDoneUptoRow.holds Try.pinned (OpenSpec.upto snapDoneSpec)

/-- 'beaconrykeep.SnapFront', WHERE WHAT IT READS IS OF BULK AT MOST 1048576: true; the input reads as it did. -/
def snapFrontUptoRow : OpenClaim := { program := "ytfcgjmekeonemaa", sum := "47873fc3fbb06882840f6add38814cc110c854f381edde524ca6237a28e620ac", func := "beaconry/beaconrykeep.SnapFront", spec := "snapFront", unfollowed := true, recurses := true, plainKeys := false, apart := false, narrowed := true }
def SnapFrontUptoSaid : Prop := snapFrontUptoRow.holds Try.pinned (OpenSpec.upto snapFrontSpec)

end Rows
end Go.Proofs.Ytfcgjmekeonemaa
