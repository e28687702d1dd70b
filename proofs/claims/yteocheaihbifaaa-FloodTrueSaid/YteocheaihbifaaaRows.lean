/-
  No cell of these rows narrows 'for every input' (looked for: loops, veiled, ifaces, maps, wideKeys, modest, calm, conditions, laid).
  DERIVED. THE GIVEN ROWS OF THIS SEAT. 3 by the template 'for every input the law returns true; each argument reads behind the call as it read before'; 0 by the template 'total and deterministic' (their statements: YteocheaihbifaaaTotals.lean).
  GIVEN WITH THE SEED: the statements are not yours to turn. If you find one false, say at which input.
  Laid BY PROGRAM, IN A SANDBOX (cutbox-rows.mjs): the forced cells as the released guide's own fill.sh prints them over the translation 52cee13e382bf5bc… (all of the seat's roots in one cut). By AI agents, Wed Nov 11 2026. No macro, syntax, notation, axiom, sorry.
-/
import Derived.Test.YteocheaihbifaaaChecked
import GoSem.Claim
import GoSem.ClaimJoined
import GoSem.ClaimMapViews
import Derived.JoinedTies
import Derived.KernelRfl
namespace Go.Proofs.Yteocheaihbifaaa
/- THE CELL 'sum', in the pinned program and in every row, IS THE sha256 OF THE DUMP (.gsa) THAT YteocheaihbifaaaProg.lean LOADS. Nothing in Lean hashes anything: it is a label: what it is worth is what the hold of that sum in a sandbox is worth. -/
noncomputable def Try.pinned : Pinned := { name := "yteocheaihbifaaa", sum := "52cee13e382bf5bc0adb4b0098aa69aa56925f4d5a4b2c86b7c3c5253470e7e9", checked := Try.checked }
namespace Rows
def none {H : Type} : Left H := { results := [], args := [] }

/-- 'beaconrykeep.FloodAgree': WHATEVER THE INPUT: true; the input reads as it did. -/
def floodAgreeSpec : ChangeSpec := { name := "floodAgree", fn := fun _ => fun
  | [d1, d2, d3] => { results := [.lit (.bool true)], args := [d1, d2, d3] }
  | _ => none }
def floodAgreeRow : OpenClaim := { program := "yteocheaihbifaaa", sum := "52cee13e382bf5bc0adb4b0098aa69aa56925f4d5a4b2c86b7c3c5253470e7e9", func := "beaconry/beaconrykeep.FloodAgree", spec := "floodAgree", unfollowed := true, recurses := true, apart := false }
def FloodAgreeSaid : Prop := floodAgreeRow.holds Try.pinned (OpenSpec.ofChange floodAgreeSpec)

/-- ITS FALSE NEIGHBOUR: 'it returns false'. Refute it at one input. -/
def floodAgreeWrong : ChangeSpec := { name := "floodAgree", fn := fun _ => fun
  | [d1, d2, d3] => { results := [.lit (.bool false)], args := [d1, d2, d3] }
  | _ => none }
def FloodAgreeWrongFalsely : Prop := floodAgreeRow.holds Try.pinned (OpenSpec.ofChange floodAgreeWrong)

/-- 'beaconrykeep.FloodQuiet': WHATEVER THE INPUT: true; the input reads as it did. -/
def floodQuietSpec : ChangeSpec := { name := "floodQuiet", fn := fun _ => fun
  | [d1, d2, d3, d4] => { results := [.lit (.bool true)], args := [d1, d2, d3, d4] }
  | _ => none }
def floodQuietRow : OpenClaim := { program := "yteocheaihbifaaa", sum := "52cee13e382bf5bc0adb4b0098aa69aa56925f4d5a4b2c86b7c3c5253470e7e9", func := "beaconry/beaconrykeep.FloodQuiet", spec := "floodQuiet", unfollowed := true, recurses := true, apart := false }
def FloodQuietSaid : Prop := floodQuietRow.holds Try.pinned (OpenSpec.ofChange floodQuietSpec)

/-- ITS FALSE NEIGHBOUR: 'it returns false'. Refute it at one input. -/
def floodQuietWrong : ChangeSpec := { name := "floodQuiet", fn := fun _ => fun
  | [d1, d2, d3, d4] => { results := [.lit (.bool false)], args := [d1, d2, d3, d4] }
  | _ => none }
def FloodQuietWrongFalsely : Prop := floodQuietRow.holds Try.pinned (OpenSpec.ofChange floodQuietWrong)

/-- 'beaconrykeep.FloodTrue': WHATEVER THE INPUT: true; the input reads as it did. -/
def floodTrueSpec : ChangeSpec := { name := "floodTrue", fn := fun _ => fun
  | [d1, d2, d3] => { results := [.lit (.bool true)], args := [d1, d2, d3] }
  | _ => none }
def floodTrueRow : OpenClaim := { program := "yteocheaihbifaaa", sum := "52cee13e382bf5bc0adb4b0098aa69aa56925f4d5a4b2c86b7c3c5253470e7e9", func := "beaconry/beaconrykeep.FloodTrue", spec := "floodTrue", unfollowed := true, recurses := true, apart := false }
def FloodTrueSaid : Prop := floodTrueRow.holds Try.pinned (OpenSpec.ofChange floodTrueSpec)

/-- ITS FALSE NEIGHBOUR: 'it returns false'. Refute it at one input. -/
def floodTrueWrong : ChangeSpec := { name := "floodTrue", fn := fun _ => fun
  | [d1, d2, d3] => { results := [.lit (.bool false)], args := [d1, d2, d3] }
  | _ => none }
def FloodTrueWrongFalsely : Prop := floodTrueRow.holds Try.pinned (OpenSpec.ofChange floodTrueWrong)

/- THE SECOND FORM. 'bulk': how many values and letters a reading holds, each counted each time it is reached (what is shared counts as often as it is met; a slice's spare places count too). A statement '..UptoSaid' is the law's where the arguments, and the package variables that the reading takes, are together of bulk at most 1048576: NARROWER than '..Said'. Prove '..Said' where nothing that the law and all that it calls make is longer than what came in: it says more and counts as full. Else prove '..UptoSaid'. A law counts once. -/
mutual
def uptoBulk {H : Type} : DataW H → Nat
  | .lit (.string bytes) => bytes.length + 1
  | .lit _ => 1
  | .nil => 1
  | .ptr d => uptoBulk d + 1
  | .slice elems spare => uptoBulkAll elems + uptoBulkAll spare + 1
  | .agg parts => uptoBulkAll parts + 1
  | .iface _ d => uptoBulk d + 1
  | .map entries => uptoBulkEntries entries + 1
  | .held _ => 1
def uptoBulkAll {H : Type} : List (DataW H) → Nat
  | [] => 0
  | d :: r => uptoBulk d + uptoBulkAll r
def uptoBulkEntries {H : Type} : List (Lit × DataW H) → Nat
  | [] => 0
  | x :: r => uptoBulkEntry x + uptoBulkEntries r
def uptoBulkEntry {H : Type} : Lit × DataW H → Nat
  | (.string bytes, d) => bytes.length + uptoBulk d + 1
  | (_, d) => uptoBulk d + 1
 end
def uptoSmall : (H : Type) → List (DataW H) → Bool := fun _ ds => decide (uptoBulkAll ds ≤ 1048576)
def OpenSpec.upto (s : _root_.Go.ChangeSpec) : _root_.Go.OpenSpec := { _root_.Go.OpenSpec.ofChange s with cond := some uptoSmall }

/-- 'beaconrykeep.FloodAgree', WHERE WHAT IT READS IS OF BULK AT MOST 1048576: true; the input reads as it did. -/
def floodAgreeUptoRow : OpenClaim := { program := "yteocheaihbifaaa", sum := "52cee13e382bf5bc0adb4b0098aa69aa56925f4d5a4b2c86b7c3c5253470e7e9", func := "beaconry/beaconrykeep.FloodAgree", spec := "floodAgree", unfollowed := true, recurses := true, apart := false, narrowed := true }
def FloodAgreeUptoSaid : Prop := floodAgreeUptoRow.holds Try.pinned (OpenSpec.upto floodAgreeSpec)

/-- 'beaconrykeep.FloodQuiet', WHERE WHAT IT READS IS OF BULK AT MOST 1048576: true; the input reads as it did. -/
def floodQuietUptoRow : OpenClaim := { program := "yteocheaihbifaaa", sum := "52cee13e382bf5bc0adb4b0098aa69aa56925f4d5a4b2c86b7c3c5253470e7e9", func := "beaconry/beaconrykeep.FloodQuiet", spec := "floodQuiet", unfollowed := true, recurses := true, apart := false, narrowed := true }
def FloodQuietUptoSaid : Prop := floodQuietUptoRow.holds Try.pinned (OpenSpec.upto floodQuietSpec)

/-- 'beaconrykeep.FloodTrue', WHERE WHAT IT READS IS OF BULK AT MOST 1048576: true; the input reads as it did. -/
def floodTrueUptoRow : OpenClaim := { program := "yteocheaihbifaaa", sum := "52cee13e382bf5bc0adb4b0098aa69aa56925f4d5a4b2c86b7c3c5253470e7e9", func := "beaconry/beaconrykeep.FloodTrue", spec := "floodTrue", unfollowed := true, recurses := true, apart := false, narrowed := true }
def FloodTrueUptoSaid : Prop := floodTrueUptoRow.holds Try.pinned (OpenSpec.upto floodTrueSpec)

end Rows
end Go.Proofs.Yteocheaihbifaaa
