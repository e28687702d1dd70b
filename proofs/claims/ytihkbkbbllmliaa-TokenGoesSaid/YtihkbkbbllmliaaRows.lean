/-
  No cell of these rows narrows 'for every input' (looked for: loops, veiled, ifaces, maps, wideKeys, modest, calm, conditions, laid).
  DERIVED. THE GIVEN ROWS OF THIS SEAT. 6 by the template 'for every input the law returns true; each argument reads behind the call as it read before'; 0 by the template 'total and deterministic' (their statements: YtihkbkbbllmliaaTotals.lean).
  GIVEN WITH THE SEED: the statements are not yours to turn. If you find one false, say at which input.
  Laid BY PROGRAM, IN A SANDBOX (cutbox-rows.mjs): the forced cells as the released guide's own fill.sh prints them over the translation 2fdad307ef3731ce… (all of the seat's roots in one cut). By AI agents, Wed Nov 11 2026. No macro, syntax, notation, axiom, sorry.
-/
import Derived.Test.YtihkbkbbllmliaaChecked
import GoSem.Claim
import GoSem.ClaimJoined
import GoSem.ClaimMapViews
import Derived.JoinedTies
import Derived.KernelRfl
namespace Go.Proofs.Ytihkbkbbllmliaa
/- THE CELL 'sum', in the pinned program and in every row, IS THE sha256 OF THE DUMP (.gsa) THAT YtihkbkbbllmliaaProg.lean LOADS. Nothing in Lean hashes anything: it is a label: what it is worth is what the hold of that sum in a sandbox is worth. -/
noncomputable def Try.pinned : Pinned := { name := "ytihkbkbbllmliaa", sum := "2fdad307ef3731ce161050b01ec6a86702f8e2cb18217ccabc9dc29df42ca00b", checked := Try.checked }
namespace Rows
def none {H : Type} : Left H := { results := [], args := [] }

/-- 'beaconrykeep.TurnOne': WHATEVER THE INPUT: true; the input reads as it did. -/
def turnOneSpec : ChangeSpec := { name := "turnOne", fn := fun _ => fun
  | [d1, d2] => { results := [.lit (.bool true)], args := [d1, d2] }
  | _ => none }
def turnOneRow : OpenClaim := { program := "ytihkbkbbllmliaa", sum := "2fdad307ef3731ce161050b01ec6a86702f8e2cb18217ccabc9dc29df42ca00b", func := "beaconry/beaconrykeep.TurnOne", spec := "turnOne", unfollowed := true, recurses := true, plainKeys := false, apart := false }
def TurnOneSaid : Prop := turnOneRow.holds Try.pinned (OpenSpec.ofChange turnOneSpec)

/-- ITS FALSE NEIGHBOUR: 'it returns false'. Refute it at one input. -/
def turnOneWrong : ChangeSpec := { name := "turnOne", fn := fun _ => fun
  | [d1, d2] => { results := [.lit (.bool false)], args := [d1, d2] }
  | _ => none }
def TurnOneWrongFalsely : Prop := turnOneRow.holds Try.pinned (OpenSpec.ofChange turnOneWrong)

/-- 'beaconrykeep.TurnGoes': WHATEVER THE INPUT: true; the input reads as it did. -/
def turnGoesSpec : ChangeSpec := { name := "turnGoes", fn := fun _ => fun
  | [d1, d2] => { results := [.lit (.bool true)], args := [d1, d2] }
  | _ => none }
def turnGoesRow : OpenClaim := { program := "ytihkbkbbllmliaa", sum := "2fdad307ef3731ce161050b01ec6a86702f8e2cb18217ccabc9dc29df42ca00b", func := "beaconry/beaconrykeep.TurnGoes", spec := "turnGoes", unfollowed := true, recurses := true, plainKeys := false, apart := false }
def TurnGoesSaid : Prop := turnGoesRow.holds Try.pinned (OpenSpec.ofChange turnGoesSpec)

/-- ITS FALSE NEIGHBOUR: 'it returns false'. Refute it at one input. -/
def turnGoesWrong : ChangeSpec := { name := "turnGoes", fn := fun _ => fun
  | [d1, d2] => { results := [.lit (.bool false)], args := [d1, d2] }
  | _ => none }
def TurnGoesWrongFalsely : Prop := turnGoesRow.holds Try.pinned (OpenSpec.ofChange turnGoesWrong)

/-- 'beaconrykeep.TurnFew': WHATEVER THE INPUT: true; the input reads as it did. -/
def turnFewSpec : ChangeSpec := { name := "turnFew", fn := fun _ => fun
  | [d1, d2] => { results := [.lit (.bool true)], args := [d1, d2] }
  | _ => none }
def turnFewRow : OpenClaim := { program := "ytihkbkbbllmliaa", sum := "2fdad307ef3731ce161050b01ec6a86702f8e2cb18217ccabc9dc29df42ca00b", func := "beaconry/beaconrykeep.TurnFew", spec := "turnFew", unfollowed := true, recurses := true, plainKeys := false, apart := false }
def TurnFewSaid : Prop := turnFewRow.holds Try.pinned (OpenSpec.ofChange turnFewSpec)

/-- ITS FALSE NEIGHBOUR: 'it returns false'. Refute it at one input. -/
def turnFewWrong : ChangeSpec := { name := "turnFew", fn := fun _ => fun
  | [d1, d2] => { results := [.lit (.bool false)], args := [d1, d2] }
  | _ => none }
def TurnFewWrongFalsely : Prop := turnFewRow.holds Try.pinned (OpenSpec.ofChange turnFewWrong)

/-- 'beaconrykeep.TokenOne': WHATEVER THE INPUT: true; the input reads as it did. -/
def tokenOneSpec : ChangeSpec := { name := "tokenOne", fn := fun _ => fun
  | [d1, d2] => { results := [.lit (.bool true)], args := [d1, d2] }
  | _ => none }
def tokenOneRow : OpenClaim := { program := "ytihkbkbbllmliaa", sum := "2fdad307ef3731ce161050b01ec6a86702f8e2cb18217ccabc9dc29df42ca00b", func := "beaconry/beaconrykeep.TokenOne", spec := "tokenOne", unfollowed := true, recurses := true, plainKeys := false, apart := false }
def TokenOneSaid : Prop := tokenOneRow.holds Try.pinned (OpenSpec.ofChange tokenOneSpec)

/-- ITS FALSE NEIGHBOUR: 'it returns false'. Refute it at one input. -/
def tokenOneWrong : ChangeSpec := { name := "tokenOne", fn := fun _ => fun
  | [d1, d2] => { results := [.lit (.bool false)], args := [d1, d2] }
  | _ => none }
def TokenOneWrongFalsely : Prop := tokenOneRow.holds Try.pinned (OpenSpec.ofChange tokenOneWrong)

/-- 'beaconrykeep.TokenGoes': WHATEVER THE INPUT: true; the input reads as it did. -/
def tokenGoesSpec : ChangeSpec := { name := "tokenGoes", fn := fun _ => fun
  | [d1, d2] => { results := [.lit (.bool true)], args := [d1, d2] }
  | _ => none }
def tokenGoesRow : OpenClaim := { program := "ytihkbkbbllmliaa", sum := "2fdad307ef3731ce161050b01ec6a86702f8e2cb18217ccabc9dc29df42ca00b", func := "beaconry/beaconrykeep.TokenGoes", spec := "tokenGoes", unfollowed := true, recurses := true, plainKeys := false, apart := false }
def TokenGoesSaid : Prop := tokenGoesRow.holds Try.pinned (OpenSpec.ofChange tokenGoesSpec)

/-- ITS FALSE NEIGHBOUR: 'it returns false'. Refute it at one input. -/
def tokenGoesWrong : ChangeSpec := { name := "tokenGoes", fn := fun _ => fun
  | [d1, d2] => { results := [.lit (.bool false)], args := [d1, d2] }
  | _ => none }
def TokenGoesWrongFalsely : Prop := tokenGoesRow.holds Try.pinned (OpenSpec.ofChange tokenGoesWrong)

/-- 'beaconrykeep.TokenFew': WHATEVER THE INPUT: true; the input reads as it did. -/
def tokenFewSpec : ChangeSpec := { name := "tokenFew", fn := fun _ => fun
  | [d1, d2] => { results := [.lit (.bool true)], args := [d1, d2] }
  | _ => none }
def tokenFewRow : OpenClaim := { program := "ytihkbkbbllmliaa", sum := "2fdad307ef3731ce161050b01ec6a86702f8e2cb18217ccabc9dc29df42ca00b", func := "beaconry/beaconrykeep.TokenFew", spec := "tokenFew", unfollowed := true, recurses := true, plainKeys := false, apart := false }
def TokenFewSaid : Prop := tokenFewRow.holds Try.pinned (OpenSpec.ofChange tokenFewSpec)

/-- ITS FALSE NEIGHBOUR: 'it returns false'. Refute it at one input. -/
def tokenFewWrong : ChangeSpec := { name := "tokenFew", fn := fun _ => fun
  | [d1, d2] => { results := [.lit (.bool false)], args := [d1, d2] }
  | _ => none }
def TokenFewWrongFalsely : Prop := tokenFewRow.holds Try.pinned (OpenSpec.ofChange tokenFewWrong)

/- THE SECOND FORM. 'bulk': how many values and letters a reading holds, each counted each time it is reached (what is shared counts as often as it is met; a slice's spare places count too). A statement '..UptoSaid' is the law's where the arguments, and the package variables that the reading takes, are together of bulk at most 1048576: NARROWER than '..Said'. Prove '..Said' where nothing that the law and all that it calls make is longer than what came in: it says more and counts as full. Else prove '..UptoSaid'. A law counts once. -/
mutual
def uptoBulk {H : Type} : DataW H → Nat
  | .lit (.string bytes) => bytes.length + 1
  | .lit _ => 1
  | .nil => 1
  | .ptr d => uptoBulk d + 1
  | .slice elems spare => uptoBulkAll elems + uptoBulkAll spare + 1
  | .agg parts => uptoBulkAll parts + 1
  | .iface _ d => uptoBulk d + 1
  | .map entries => uptoBulkEntries entries + 1
  | .held _ => 1
def uptoBulkAll {H : Type} : List (DataW H) → Nat
  | [] => 0
  | d :: r => uptoBulk d + uptoBulkAll r
def uptoBulkEntries {H : Type} : List (Lit × DataW H) → Nat
  | [] => 0
  | x :: r => uptoBulkEntry x + uptoBulkEntries r
def uptoBulkEntry {H : Type} : Lit × DataW H → Nat
  | (.string bytes, d) => bytes.length + uptoBulk d + 1
  | (_, d) => uptoBulk d + 1
 end
def uptoSmall : (H : Type) → List (DataW H) → Bool := fun _ ds => decide (uptoBulkAll ds ≤ 1048576)
def OpenSpec.upto (s : _root_.Go.ChangeSpec) : _root_.Go.OpenSpec := { _root_.Go.OpenSpec.ofChange s with cond := some uptoSmall }

/-- 'beaconrykeep.TurnOne', WHERE WHAT IT READS IS OF BULK AT MOST 1048576: true; the input reads as it did. -/
def turnOneUptoRow : OpenClaim := { program := "ytihkbkbbllmliaa", sum := "2fdad307ef3731ce161050b01ec6a86702f8e2cb18217ccabc9dc29df42ca00b", func := "beaconry/beaconrykeep.TurnOne", spec := "turnOne", unfollowed := true, recurses := true, plainKeys := false, apart := false, narrowed := true }
def TurnOneUptoSaid : Prop := turnOneUptoRow.holds Try.pinned (OpenSpec.upto turnOneSpec)

/-- 'beaconrykeep.TurnGoes', WHERE WHAT IT READS IS OF BULK AT MOST 1048576: true; the input reads as it did. -/
def turnGoesUptoRow : OpenClaim := { program := "ytihkbkbbllmliaa", sum := "2fdad307ef3731ce161050b01ec6a86702f8e2cb18217ccabc9dc29df42ca00b", func := "beaconry/beaconrykeep.TurnGoes", spec := "turnGoes", unfollowed := true, recurses := true, plainKeys := false, apart := false, narrowed := true }
def TurnGoesUptoSaid : Prop := turnGoesUptoRow.holds Try.pinned (OpenSpec.upto turnGoesSpec)

/-- 'beaconrykeep.TurnFew', WHERE WHAT IT READS IS OF BULK AT MOST 1048576: true; the input reads as it did. -/
def turnFewUptoRow : OpenClaim := { program := "ytihkbkbbllmliaa", sum := "2fdad307ef3731ce161050b01ec6a86702f8e2cb18217ccabc9dc29df42ca00b", func := "beaconry/beaconrykeep.TurnFew", spec := "turnFew", unfollowed := true, recurses := true, plainKeys := false, apart := false, narrowed := true }
def TurnFewUptoSaid : Prop := turnFewUptoRow.holds Try.pinned (OpenSpec.upto turnFewSpec)

/-- 'beaconrykeep.TokenOne', WHERE WHAT IT READS IS OF BULK AT MOST 1048576: true; the input reads as it did. -/
def tokenOneUptoRow : OpenClaim := { program := "ytihkbkbbllmliaa", sum := "2fdad307ef3731ce161050b01ec6a86702f8e2cb18217ccabc9dc29df42ca00b", func := "beaconry/beaconrykeep.TokenOne", spec := "tokenOne", unfollowed := true, recurses := true, plainKeys := false, apart := false, narrowed := true }
def TokenOneUptoSaid : Prop := tokenOneUptoRow.holds Try.pinned (OpenSpec.upto tokenOneSpec)

/-- 'beaconrykeep.TokenGoes', WHERE WHAT IT READS IS OF BULK AT MOST 1048576: true; the input reads as it did. -/
def tokenGoesUptoRow : OpenClaim := { program := "ytihkbkbbllmliaa", sum := "2fdad307ef3731ce161050b01ec6a86702f8e2cb18217ccabc9dc29df42ca00b", func := "beaconry/beaconrykeep.TokenGoes", spec := "tokenGoes", unfollowed := true, recurses := true, plainKeys := false, apart := false, narrowed := true }
def TokenGoesUptoSaid : Prop := tokenGoesUptoRow.holds Try.pinned (OpenSpec.upto tokenGoesSpec)

/-- 'beaconrykeep.TokenFew', WHERE WHAT IT READS IS OF BULK AT MOST 1048576: true; the input reads as it did. -/
def tokenFewUptoRow : OpenClaim := { program := "ytihkbkbbllmliaa", sum := "2fdad307ef3731ce161050b01ec6a86702f8e2cb18217ccabc9dc29df42ca00b", func := "beaconry/beaconrykeep.TokenFew", spec := "tokenFew", unfollowed := true, recurses := true, plainKeys := false, apart := false, narrowed := true }
def TokenFewUptoSaid : Prop := tokenFewUptoRow.holds Try.pinned (OpenSpec.upto tokenFewSpec)

end Rows
end Go.Proofs.Ytihkbkbbllmliaa
