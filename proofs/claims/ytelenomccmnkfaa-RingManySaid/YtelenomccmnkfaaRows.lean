/-
  No cell of these rows narrows 'for every input' (looked for: loops, veiled, ifaces, maps, wideKeys, modest, calm, conditions, laid).
  DERIVED. THE GIVEN ROWS OF THIS SEAT. 4 by the template 'for every input the law returns true; each argument reads behind the call as it read before'; 0 by the template 'total and deterministic' (their statements: YtelenomccmnkfaaTotals.lean).
  GIVEN WITH THE SEED: the statements are not yours to turn. If you find one false, say at which input.
  Laid BY PROGRAM, IN A SANDBOX (cutbox-rows.mjs): the forced cells as the released guide's own fill.sh prints them over the translation 6dbc01b9dc24bc61… (all of the seat's roots in one cut). By AI agents, Wed Nov 11 2026. No macro, syntax, notation, axiom, sorry.
-/
import Derived.Test.YtelenomccmnkfaaChecked
import GoSem.Claim
import GoSem.ClaimJoined
import GoSem.ClaimMapViews
import Derived.JoinedTies
import Derived.KernelRfl
namespace Go.Proofs.Ytelenomccmnkfaa
/- THE CELL 'sum', in the pinned program and in every row, IS THE sha256 OF THE DUMP (.gsa) THAT YtelenomccmnkfaaProg.lean LOADS. Nothing in Lean hashes anything: it is a label: what it is worth is what the hold of that sum in a sandbox is worth. -/
noncomputable def Try.pinned : Pinned := { name := "ytelenomccmnkfaa", sum := "6dbc01b9dc24bc61da845533b75786dd68f12745e92aac134d853ea115736aa0", checked := Try.checked }
namespace Rows
def none {H : Type} : Left H := { results := [], args := [] }

/-- 'beaconrykeep.RingFew': WHATEVER THE INPUT: true; the input reads as it did. -/
def ringFewSpec : ChangeSpec := { name := "ringFew", fn := fun _ => fun
  | [d] => { results := [.lit (.bool true)], args := [d] }
  | _ => none }
def ringFewRow : OpenClaim := { program := "ytelenomccmnkfaa", sum := "6dbc01b9dc24bc61da845533b75786dd68f12745e92aac134d853ea115736aa0", func := "beaconry/beaconrykeep.RingFew", spec := "ringFew", apart := false }
def RingFewSaid : Prop := ringFewRow.holds Try.pinned (OpenSpec.ofChange ringFewSpec)

/-- ITS FALSE NEIGHBOUR: 'it returns false'. Refute it at one input. -/
def ringFewWrong : ChangeSpec := { name := "ringFew", fn := fun _ => fun
  | [d] => { results := [.lit (.bool false)], args := [d] }
  | _ => none }
def RingFewWrongFalsely : Prop := ringFewRow.holds Try.pinned (OpenSpec.ofChange ringFewWrong)

/-- 'beaconrykeep.RingSoon': WHATEVER THE INPUT: true; the input reads as it did. -/
def ringSoonSpec : ChangeSpec := { name := "ringSoon", fn := fun _ => fun
  | [d] => { results := [.lit (.bool true)], args := [d] }
  | _ => none }
def ringSoonRow : OpenClaim := { program := "ytelenomccmnkfaa", sum := "6dbc01b9dc24bc61da845533b75786dd68f12745e92aac134d853ea115736aa0", func := "beaconry/beaconrykeep.RingSoon", spec := "ringSoon", apart := false }
def RingSoonSaid : Prop := ringSoonRow.holds Try.pinned (OpenSpec.ofChange ringSoonSpec)

/-- ITS FALSE NEIGHBOUR: 'it returns false'. Refute it at one input. -/
def ringSoonWrong : ChangeSpec := { name := "ringSoon", fn := fun _ => fun
  | [d] => { results := [.lit (.bool false)], args := [d] }
  | _ => none }
def RingSoonWrongFalsely : Prop := ringSoonRow.holds Try.pinned (OpenSpec.ofChange ringSoonWrong)

/-- 'beaconrykeep.RingGreatest': WHATEVER THE INPUT: true; the input reads as it did. -/
def ringGreatestSpec : ChangeSpec := { name := "ringGreatest", fn := fun _ => fun
  | [d1, d2] => { results := [.lit (.bool true)], args := [d1, d2] }
  | _ => none }
def ringGreatestRow : OpenClaim := { program := "ytelenomccmnkfaa", sum := "6dbc01b9dc24bc61da845533b75786dd68f12745e92aac134d853ea115736aa0", func := "beaconry/beaconrykeep.RingGreatest", spec := "ringGreatest", apart := false }
def RingGreatestSaid : Prop := ringGreatestRow.holds Try.pinned (OpenSpec.ofChange ringGreatestSpec)

/-- ITS FALSE NEIGHBOUR: 'it returns false'. Refute it at one input. -/
def ringGreatestWrong : ChangeSpec := { name := "ringGreatest", fn := fun _ => fun
  | [d1, d2] => { results := [.lit (.bool false)], args := [d1, d2] }
  | _ => none }
def RingGreatestWrongFalsely : Prop := ringGreatestRow.holds Try.pinned (OpenSpec.ofChange ringGreatestWrong)

/-- 'beaconrykeep.RingMany': WHATEVER THE INPUT: true; the input reads as it did. -/
def ringManySpec : ChangeSpec := { name := "ringMany", fn := fun _ => fun
  | [d1, d2] => { results := [.lit (.bool true)], args := [d1, d2] }
  | _ => none }
def ringManyRow : OpenClaim := { program := "ytelenomccmnkfaa", sum := "6dbc01b9dc24bc61da845533b75786dd68f12745e92aac134d853ea115736aa0", func := "beaconry/beaconrykeep.RingMany", spec := "ringMany", apart := false }
def RingManySaid : Prop := ringManyRow.holds Try.pinned (OpenSpec.ofChange ringManySpec)

/-- ITS FALSE NEIGHBOUR: 'it returns false'. Refute it at one input. -/
def ringManyWrong : ChangeSpec := { name := "ringMany", fn := fun _ => fun
  | [d1, d2] => { results := [.lit (.bool false)], args := [d1, d2] }
  | _ => none }
def RingManyWrongFalsely : Prop := ringManyRow.holds Try.pinned (OpenSpec.ofChange ringManyWrong)

/- THE SECOND FORM. 'bulk': how many values and letters a reading holds, each counted each time it is reached (what is shared counts as often as it is met; a slice's spare places count too). A statement '..UptoSaid' is the law's where the arguments, and the package variables that the reading takes, are together of bulk at most 1048576: NARROWER than '..Said'. Prove '..Said' where nothing that the law and all that it calls make is longer than what came in: it says more and counts as full. Else prove '..UptoSaid'. A law counts once. -/
mutual
def uptoBulk {H : Type} : DataW H → Nat
  | .lit (.string bytes) => bytes.length + 1
  | .lit _ => 1
  | .nil => 1
  | .ptr d => uptoBulk d + 1
  | .slice elems spare => uptoBulkAll elems + uptoBulkAll spare + 1
  | .agg parts => uptoBulkAll parts + 1
  | .iface _ d => uptoBulk d + 1
  | .map entries => uptoBulkEntries entries + 1
  | .held _ => 1
def uptoBulkAll {H : Type} : List (DataW H) → Nat
  | [] => 0
  | d :: r => uptoBulk d + uptoBulkAll r
def uptoBulkEntries {H : Type} : List (Lit × DataW H) → Nat
  | [] => 0
  | x :: r => uptoBulkEntry x + uptoBulkEntries r
def uptoBulkEntry {H : Type} : Lit × DataW H → Nat
  | (.string bytes, d) => bytes.length + uptoBulk d + 1
  | (_, d) => uptoBulk d + 1
 end
def uptoSmall : (H : Type) → List (DataW H) → Bool := fun _ ds => decide (uptoBulkAll ds ≤ 1048576)
def OpenSpec.upto (s : _root_.Go.ChangeSpec) : _root_.Go.OpenSpec := { _root_.Go.OpenSpec.ofChange s with cond := some uptoSmall }

/-- 'beaconrykeep.RingFew', WHERE WHAT IT READS IS OF BULK AT MOST 1048576: true; the input reads as it did. -/
def ringFewUptoRow : OpenClaim := { program := "ytelenomccmnkfaa", sum := "6dbc01b9dc24bc61da845533b75786dd68f12745e92aac134d853ea115736aa0", func := "beaconry/beaconrykeep.RingFew", spec := "ringFew", apart := false, narrowed := true }
def RingFewUptoSaid : Prop := ringFewUptoRow.holds Try.pinned (OpenSpec.upto ringFewSpec)

/-- 'beaconrykeep.RingSoon', WHERE WHAT IT READS IS OF BULK AT MOST 1048576: true; the input reads as it did. -/
def ringSoonUptoRow : OpenClaim := { program := "ytelenomccmnkfaa", sum := "6dbc01b9dc24bc61da845533b75786dd68f12745e92aac134d853ea115736aa0", func := "beaconry/beaconrykeep.RingSoon", spec := "ringSoon", apart := false, narrowed := true }
def RingSoonUptoSaid : Prop := ringSoonUptoRow.holds Try.pinned (OpenSpec.upto ringSoonSpec)

/-- 'beaconrykeep.RingGreatest', WHERE WHAT IT READS IS OF BULK AT MOST 1048576: true; the input reads as it did. -/
def ringGreatestUptoRow : OpenClaim := { program := "ytelenomccmnkfaa", sum := "6dbc01b9dc24bc61da845533b75786dd68f12745e92aac134d853ea115736aa0", func := "beaconry/beaconrykeep.RingGreatest", spec := "ringGreatest", apart := false, narrowed := true }
def RingGreatestUptoSaid : Prop := ringGreatestUptoRow.holds Try.pinned (OpenSpec.upto ringGreatestSpec)

/-- 'beaconrykeep.RingMany', WHERE WHAT IT READS IS OF BULK AT MOST 1048576: true; the input reads as it did. -/
def ringManyUptoRow : OpenClaim := { program := "ytelenomccmnkfaa", sum := "6dbc01b9dc24bc61da845533b75786dd68f12745e92aac134d853ea115736aa0", func := "beaconry/beaconrykeep.RingMany", spec := "ringMany", apart := false, narrowed := true }
def RingManyUptoSaid : Prop := ringManyUptoRow.holds Try.pinned (OpenSpec.upto ringManySpec)

end Rows
end Go.Proofs.Ytelenomccmnkfaa
