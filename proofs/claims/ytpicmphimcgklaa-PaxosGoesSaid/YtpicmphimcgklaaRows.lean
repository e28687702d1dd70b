/-
  No cell of these rows narrows 'for every input' (looked for: loops, veiled, ifaces, maps, wideKeys, modest, calm, conditions, laid).
  DERIVED. THE GIVEN ROWS OF THIS SEAT. 3 by the template 'for every input the law returns true; each argument reads behind the call as it read before'; 0 by the template 'total and deterministic' (their statements: YtpicmphimcgklaaTotals.lean).
  GIVEN WITH THE SEED: the statements are not yours to turn. If you find one false, say at which input.
  Laid BY PROGRAM, IN A SANDBOX (cutbox-rows.mjs): the forced cells as the released guide's own fill.sh prints them over the translation 451f67d4734e8337… (all of the seat's roots in one cut). By AI agents, Wed Nov 11 2026. No macro, syntax, notation, axiom, sorry.
-/
import Derived.Test.YtpicmphimcgklaaChecked
import GoSem.Claim
import GoSem.ClaimJoined
import GoSem.ClaimMapViews
import Derived.JoinedTies
import Derived.KernelRfl
namespace Go.Proofs.Ytpicmphimcgklaa
/- THE CELL 'sum', in the pinned program and in every row, IS THE sha256 OF THE DUMP (.gsa) THAT YtpicmphimcgklaaProg.lean LOADS. Nothing in Lean hashes anything: it is a label: what it is worth is what the hold of that sum in a sandbox is worth. -/
noncomputable def Try.pinned : Pinned := { name := "ytpicmphimcgklaa", sum := "451f67d4734e8337d56fdbe5bd91407b1c468eeb975c5ac381540bbc89d47212", checked := Try.checked }
namespace Rows
def none {H : Type} : Left H := { results := [], args := [] }

/-- 'beaconrykeep.PaxosOne': WHATEVER THE INPUT: true; the input reads as it did. -/
def paxosOneSpec : ChangeSpec := { name := "paxosOne", fn := fun _ => fun
  | [d1, d2, d3] => { results := [.lit (.bool true)], args := [d1, d2, d3] }
  | _ => none }
def paxosOneRow : OpenClaim := { program := "ytpicmphimcgklaa", sum := "451f67d4734e8337d56fdbe5bd91407b1c468eeb975c5ac381540bbc89d47212", func := "beaconry/beaconrykeep.PaxosOne", spec := "paxosOne", apart := false }
def PaxosOneSaid : Prop := paxosOneRow.holds Try.pinned (OpenSpec.ofChange paxosOneSpec)

/-- ITS FALSE NEIGHBOUR: 'it returns false'. Refute it at one input. -/
def paxosOneWrong : ChangeSpec := { name := "paxosOne", fn := fun _ => fun
  | [d1, d2, d3] => { results := [.lit (.bool false)], args := [d1, d2, d3] }
  | _ => none }
def PaxosOneWrongFalsely : Prop := paxosOneRow.holds Try.pinned (OpenSpec.ofChange paxosOneWrong)

/-- 'beaconrykeep.PaxosLater': WHATEVER THE INPUT: true; the input reads as it did. -/
def paxosLaterSpec : ChangeSpec := { name := "paxosLater", fn := fun _ => fun
  | [d1, d2] => { results := [.lit (.bool true)], args := [d1, d2] }
  | _ => none }
def paxosLaterRow : OpenClaim := { program := "ytpicmphimcgklaa", sum := "451f67d4734e8337d56fdbe5bd91407b1c468eeb975c5ac381540bbc89d47212", func := "beaconry/beaconrykeep.PaxosLater", spec := "paxosLater", apart := false }
def PaxosLaterSaid : Prop := paxosLaterRow.holds Try.pinned (OpenSpec.ofChange paxosLaterSpec)

/-- ITS FALSE NEIGHBOUR: 'it returns false'. Refute it at one input. -/
def paxosLaterWrong : ChangeSpec := { name := "paxosLater", fn := fun _ => fun
  | [d1, d2] => { results := [.lit (.bool false)], args := [d1, d2] }
  | _ => none }
def PaxosLaterWrongFalsely : Prop := paxosLaterRow.holds Try.pinned (OpenSpec.ofChange paxosLaterWrong)

/-- 'beaconrykeep.PaxosGoes': WHATEVER THE INPUT: true; the input reads as it did. -/
def paxosGoesSpec : ChangeSpec := { name := "paxosGoes", fn := fun _ => fun
  | [d1, d2] => { results := [.lit (.bool true)], args := [d1, d2] }
  | _ => none }
def paxosGoesRow : OpenClaim := { program := "ytpicmphimcgklaa", sum := "451f67d4734e8337d56fdbe5bd91407b1c468eeb975c5ac381540bbc89d47212", func := "beaconry/beaconrykeep.PaxosGoes", spec := "paxosGoes", apart := false }
def PaxosGoesSaid : Prop := paxosGoesRow.holds Try.pinned (OpenSpec.ofChange paxosGoesSpec)

/-- ITS FALSE NEIGHBOUR: 'it returns false'. Refute it at one input. -/
def paxosGoesWrong : ChangeSpec := { name := "paxosGoes", fn := fun _ => fun
  | [d1, d2] => { results := [.lit (.bool false)], args := [d1, d2] }
  | _ => none }
def PaxosGoesWrongFalsely : Prop := paxosGoesRow.holds Try.pinned (OpenSpec.ofChange paxosGoesWrong)

/- THE SECOND FORM. 'bulk': how many values and letters a reading holds, each counted each time it is reached (what is shared counts as often as it is met; a slice's spare places count too). A statement '..UptoSaid' is the law's where the arguments, and the package variables that the reading takes, are together of bulk at most 1048576: NARROWER than '..Said'. Prove '..Said' where nothing that the law and all that it calls make is longer than what came in: it says more and counts as full. Else prove '..UptoSaid'. A law counts once. -/
mutual
def uptoBulk {H : Type} : DataW H → Nat
  | .lit (.string bytes) => bytes.length + 1
  | .lit _ => 1
  | .nil => 1
  | .ptr d => uptoBulk d + 1
  | .slice elems spare => uptoBulkAll elems + uptoBulkAll spare + 1
  | .agg parts => uptoBulkAll parts + 1
  | .iface _ d => uptoBulk d + 1
  | .map entries => uptoBulkEntries entries + 1
  | .held _ => 1
def uptoBulkAll {H : Type} : List (DataW H) → Nat
  | [] => 0
  | d :: r => uptoBulk d + uptoBulkAll r
def uptoBulkEntries {H : Type} : List (Lit × DataW H) → Nat
  | [] => 0
  | x :: r => uptoBulkEntry x + uptoBulkEntries r
def uptoBulkEntry {H : Type} : Lit × DataW H → Nat
  | (.string bytes, d) => bytes.length + uptoBulk d + 1
  | (_, d) => uptoBulk d + 1
 end
def uptoSmall : (H : Type) → List (DataW H) → Bool := fun _ ds => decide (uptoBulkAll ds ≤ 1048576)
def OpenSpec.upto (s : _root_.Go.ChangeSpec) : _root_.Go.OpenSpec := { _root_.Go.OpenSpec.ofChange s with cond := some uptoSmall }

/-- 'beaconrykeep.PaxosOne', WHERE WHAT IT READS IS OF BULK AT MOST 1048576: true; the input reads as it did. -/
def paxosOneUptoRow : OpenClaim := { program := "ytpicmphimcgklaa", sum := "451f67d4734e8337d56fdbe5bd91407b1c468eeb975c5ac381540bbc89d47212", func := "beaconry/beaconrykeep.PaxosOne", spec := "paxosOne", apart := false, narrowed := true }
def PaxosOneUptoSaid : Prop := paxosOneUptoRow.holds Try.pinned (OpenSpec.upto paxosOneSpec)

/-- 'beaconrykeep.PaxosLater', WHERE WHAT IT READS IS OF BULK AT MOST 1048576: true; the input reads as it did. -/
def paxosLaterUptoRow : OpenClaim := { program := "ytpicmphimcgklaa", sum := "451f67d4734e8337d56fdbe5bd91407b1c468eeb975c5ac381540bbc89d47212", func := "beaconry/beaconrykeep.PaxosLater", spec := "paxosLater", apart := false, narrowed := true }
def PaxosLaterUptoSaid : Prop := paxosLaterUptoRow.holds Try.pinned (OpenSpec.upto paxosLaterSpec)

/-- 'beaconrykeep.PaxosGoes', WHERE WHAT IT READS IS OF BULK AT MOST 1048576: true; the input reads as it did. -/
def paxosGoesUptoRow : OpenClaim := { program := "ytpicmphimcgklaa", sum := "451f67d4734e8337d56fdbe5bd91407b1c468eeb975c5ac381540bbc89d47212", func := "beaconry/beaconrykeep.PaxosGoes", spec := "paxosGoes", apart := false, narrowed := true }
def PaxosGoesUptoSaid : Prop := paxosGoesUptoRow.holds Try.pinned (OpenSpec.upto paxosGoesSpec)

end Rows
end Go.Proofs.Ytpicmphimcgklaa
