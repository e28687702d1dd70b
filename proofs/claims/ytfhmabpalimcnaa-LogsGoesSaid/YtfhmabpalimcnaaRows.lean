/-
  No cell of these rows narrows 'for every input' (looked for: loops, veiled, ifaces, maps, wideKeys, modest, calm, conditions, laid).
  DERIVED. THE GIVEN ROWS OF THIS SEAT. 5 by the template 'for every input the law returns true; each argument reads behind the call as it read before'; 0 by the template 'total and deterministic' (their statements: YtfhmabpalimcnaaTotals.lean).
  GIVEN WITH THE SEED: the statements are not yours to turn. If you find one false, say at which input.
  Laid BY PROGRAM, IN A SANDBOX (cutbox-rows.mjs): the forced cells as the released guide's own fill.sh prints them over the translation 21a3088513d3a1ed… (all of the seat's roots in one cut). By AI agents, Wed Nov 11 2026. No macro, syntax, notation, axiom, sorry.
-/
import Derived.Test.YtfhmabpalimcnaaChecked
import GoSem.Claim
import GoSem.ClaimJoined
import GoSem.ClaimMapViews
import Derived.JoinedTies
import Derived.KernelRfl
namespace Go.Proofs.Ytfhmabpalimcnaa
/- THE CELL 'sum', in the pinned program and in every row, IS THE sha256 OF THE DUMP (.gsa) THAT YtfhmabpalimcnaaProg.lean LOADS. Nothing in Lean hashes anything: it is a label: what it is worth is what the hold of that sum in a sandbox is worth. -/
noncomputable def Try.pinned : Pinned := { name := "ytfhmabpalimcnaa", sum := "21a3088513d3a1edf8197949d4d89e385d5a8aee7e4060353446f88a9a8a58b9", checked := Try.checked }
namespace Rows
def none {H : Type} : Left H := { results := [], args := [] }

/-- 'beaconrykeep.LogsMatch': WHATEVER THE INPUT: true; the input reads as it did. -/
def logsMatchSpec : ChangeSpec := { name := "logsMatch", fn := fun _ => fun
  | [d1, d2] => { results := [.lit (.bool true)], args := [d1, d2] }
  | _ => none }
def logsMatchRow : OpenClaim := { program := "ytfhmabpalimcnaa", sum := "21a3088513d3a1edf8197949d4d89e385d5a8aee7e4060353446f88a9a8a58b9", func := "beaconry/beaconrykeep.LogsMatch", spec := "logsMatch", unfollowed := true, recurses := true, apart := false }
def LogsMatchSaid : Prop := logsMatchRow.holds Try.pinned (OpenSpec.ofChange logsMatchSpec)

/-- ITS FALSE NEIGHBOUR: 'it returns false'. Refute it at one input. -/
def logsMatchWrong : ChangeSpec := { name := "logsMatch", fn := fun _ => fun
  | [d1, d2] => { results := [.lit (.bool false)], args := [d1, d2] }
  | _ => none }
def LogsMatchWrongFalsely : Prop := logsMatchRow.holds Try.pinned (OpenSpec.ofChange logsMatchWrong)

/-- 'beaconrykeep.LogsSure': WHATEVER THE INPUT: true; the input reads as it did. -/
def logsSureSpec : ChangeSpec := { name := "logsSure", fn := fun _ => fun
  | [d1, d2, d3] => { results := [.lit (.bool true)], args := [d1, d2, d3] }
  | _ => none }
def logsSureRow : OpenClaim := { program := "ytfhmabpalimcnaa", sum := "21a3088513d3a1edf8197949d4d89e385d5a8aee7e4060353446f88a9a8a58b9", func := "beaconry/beaconrykeep.LogsSure", spec := "logsSure", unfollowed := true, recurses := true, apart := false }
def LogsSureSaid : Prop := logsSureRow.holds Try.pinned (OpenSpec.ofChange logsSureSpec)

/-- ITS FALSE NEIGHBOUR: 'it returns false'. Refute it at one input. -/
def logsSureWrong : ChangeSpec := { name := "logsSure", fn := fun _ => fun
  | [d1, d2, d3] => { results := [.lit (.bool false)], args := [d1, d2, d3] }
  | _ => none }
def LogsSureWrongFalsely : Prop := logsSureRow.holds Try.pinned (OpenSpec.ofChange logsSureWrong)

/-- 'beaconrykeep.LogsLead': WHATEVER THE INPUT: true; the input reads as it did. -/
def logsLeadSpec : ChangeSpec := { name := "logsLead", fn := fun _ => fun
  | [d1, d2, d3] => { results := [.lit (.bool true)], args := [d1, d2, d3] }
  | _ => none }
def logsLeadRow : OpenClaim := { program := "ytfhmabpalimcnaa", sum := "21a3088513d3a1edf8197949d4d89e385d5a8aee7e4060353446f88a9a8a58b9", func := "beaconry/beaconrykeep.LogsLead", spec := "logsLead", unfollowed := true, recurses := true, apart := false }
def LogsLeadSaid : Prop := logsLeadRow.holds Try.pinned (OpenSpec.ofChange logsLeadSpec)

/-- ITS FALSE NEIGHBOUR: 'it returns false'. Refute it at one input. -/
def logsLeadWrong : ChangeSpec := { name := "logsLead", fn := fun _ => fun
  | [d1, d2, d3] => { results := [.lit (.bool false)], args := [d1, d2, d3] }
  | _ => none }
def LogsLeadWrongFalsely : Prop := logsLeadRow.holds Try.pinned (OpenSpec.ofChange logsLeadWrong)

/-- 'beaconrykeep.LogsTerms': WHATEVER THE INPUT: true; the input reads as it did. -/
def logsTermsSpec : ChangeSpec := { name := "logsTerms", fn := fun _ => fun
  | [d1, d2] => { results := [.lit (.bool true)], args := [d1, d2] }
  | _ => none }
def logsTermsRow : OpenClaim := { program := "ytfhmabpalimcnaa", sum := "21a3088513d3a1edf8197949d4d89e385d5a8aee7e4060353446f88a9a8a58b9", func := "beaconry/beaconrykeep.LogsTerms", spec := "logsTerms", unfollowed := true, recurses := true, apart := false }
def LogsTermsSaid : Prop := logsTermsRow.holds Try.pinned (OpenSpec.ofChange logsTermsSpec)

/-- ITS FALSE NEIGHBOUR: 'it returns false'. Refute it at one input. -/
def logsTermsWrong : ChangeSpec := { name := "logsTerms", fn := fun _ => fun
  | [d1, d2] => { results := [.lit (.bool false)], args := [d1, d2] }
  | _ => none }
def LogsTermsWrongFalsely : Prop := logsTermsRow.holds Try.pinned (OpenSpec.ofChange logsTermsWrong)

/-- 'beaconrykeep.LogsGoes': WHATEVER THE INPUT: true; the input reads as it did. -/
def logsGoesSpec : ChangeSpec := { name := "logsGoes", fn := fun _ => fun
  | [d1, d2] => { results := [.lit (.bool true)], args := [d1, d2] }
  | _ => none }
def logsGoesRow : OpenClaim := { program := "ytfhmabpalimcnaa", sum := "21a3088513d3a1edf8197949d4d89e385d5a8aee7e4060353446f88a9a8a58b9", func := "beaconry/beaconrykeep.LogsGoes", spec := "logsGoes", unfollowed := true, recurses := true, apart := false }
def LogsGoesSaid : Prop := logsGoesRow.holds Try.pinned (OpenSpec.ofChange logsGoesSpec)

/-- ITS FALSE NEIGHBOUR: 'it returns false'. Refute it at one input. -/
def logsGoesWrong : ChangeSpec := { name := "logsGoes", fn := fun _ => fun
  | [d1, d2] => { results := [.lit (.bool false)], args := [d1, d2] }
  | _ => none }
def LogsGoesWrongFalsely : Prop := logsGoesRow.holds Try.pinned (OpenSpec.ofChange logsGoesWrong)

/- THE SECOND FORM. 'bulk': how many values and letters a reading holds, each counted each time it is reached (what is shared counts as often as it is met; a slice's spare places count too). A statement '..UptoSaid' is the law's where the arguments, and the package variables that the reading takes, are together of bulk at most 1048576: NARROWER than '..Said'. Prove '..Said' where nothing that the law and all that it calls make is longer than what came in: it says more and counts as full. Else prove '..UptoSaid'. A law counts once. -/
mutual
def uptoBulk {H : Type} : DataW H → Nat
  | .lit (.string bytes) => bytes.length + 1
  | .lit _ => 1
  | .nil => 1
  | .ptr d => uptoBulk d + 1
  | .slice elems spare => uptoBulkAll elems + uptoBulkAll spare + 1
  | .agg parts => uptoBulkAll parts + 1
  | .iface _ d => uptoBulk d + 1
  | .map entries => uptoBulkEntries entries + 1
  | .held _ => 1
def uptoBulkAll {H : Type} : List (DataW H) → Nat
  | [] => 0
  | d :: r => uptoBulk d + uptoBulkAll r
def uptoBulkEntries {H : Type} : List (Lit × DataW H) → Nat
  | [] => 0
  | x :: r => uptoBulkEntry x + uptoBulkEntries r
def uptoBulkEntry {H : Type} : Lit × DataW H → Nat
  | (.string bytes, d) => bytes.length + uptoBulk d + 1
  | (_, d) => uptoBulk d + 1
 end
def uptoSmall : (H : Type) → List (DataW H) → Bool := fun _ ds => decide (uptoBulkAll ds ≤ 1048576)
def OpenSpec.upto (s : _root_.Go.ChangeSpec) : _root_.Go.OpenSpec := { _root_.Go.OpenSpec.ofChange s with cond := some uptoSmall }

/-- 'beaconrykeep.LogsMatch', WHERE WHAT IT READS IS OF BULK AT MOST 1048576: true; the input reads as it did. -/
def logsMatchUptoRow : OpenClaim := { program := "ytfhmabpalimcnaa", sum := "21a3088513d3a1edf8197949d4d89e385d5a8aee7e4060353446f88a9a8a58b9", func := "beaconry/beaconrykeep.LogsMatch", spec := "logsMatch", unfollowed := true, recurses := true, apart := false, narrowed := true }
def LogsMatchUptoSaid : Prop := logsMatchUptoRow.holds Try.pinned (OpenSpec.upto logsMatchSpec)

/-- 'beaconrykeep.LogsSure', WHERE WHAT IT READS IS OF BULK AT MOST 1048576: true; the input reads as it did. -/
def logsSureUptoRow : OpenClaim := { program := "ytfhmabpalimcnaa", sum := "21a3088513d3a1edf8197949d4d89e385d5a8aee7e4060353446f88a9a8a58b9", func := "beaconry/beaconrykeep.LogsSure", spec := "logsSure", unfollowed := true, recurses := true, apart := false, narrowed := true }
def LogsSureUptoSaid : Prop := logsSureUptoRow.holds Try.pinned (OpenSpec.upto logsSureSpec)

/-- 'beaconrykeep.LogsLead', WHERE WHAT IT READS IS OF BULK AT MOST 1048576: true; the input reads as it did. -/
def logsLeadUptoRow : OpenClaim := { program := "ytfhmabpalimcnaa", sum := "21a3088513d3a1edf8197949d4d89e385d5a8aee7e4060353446f88a9a8a58b9", func := "beaconry/beaconrykeep.LogsLead", spec := "logsLead", unfollowed := true, recurses := true, apart := false, narrowed := true }
def LogsLeadUptoSaid : Prop := logsLeadUptoRow.holds Try.pinned (OpenSpec.upto logsLeadSpec)

/-- 'beaconrykeep.LogsTerms', WHERE WHAT IT READS IS OF BULK AT MOST 1048576: true; the input reads as it did. -/
def logsTermsUptoRow : OpenClaim := { program := "ytfhmabpalimcnaa", sum := "21a3088513d3a1edf8197949d4d89e385d5a8aee7e4060353446f88a9a8a58b9", func := "beaconry/beaconrykeep.LogsTerms", spec := "logsTerms", unfollowed := true, recurses := true, apart := false, narrowed := true }
def LogsTermsUptoSaid : Prop := logsTermsUptoRow.holds Try.pinned (OpenSpec.upto logsTermsSpec)

/-- 'beaconrykeep.LogsGoes', WHERE WHAT IT READS IS OF BULK AT MOST 1048576: true; the input reads as it did. -/
def logsGoesUptoRow : OpenClaim := { program := "ytfhmabpalimcnaa", sum := "21a3088513d3a1edf8197949d4d89e385d5a8aee7e4060353446f88a9a8a58b9", func := "beaconry/beaconrykeep.LogsGoes", spec := "logsGoes", unfollowed := true, recurses := true, apart := false, narrowed := true }
def LogsGoesUptoSaid : Prop := logsGoesUptoRow.holds Try.pinned (OpenSpec.upto logsGoesSpec)

end Rows
end Go.Proofs.Ytfhmabpalimcnaa
