/-
  No cell of these rows narrows 'for every input' (looked for: loops, veiled, ifaces, maps, wideKeys, modest, calm, conditions, laid).
  DERIVED. THE GIVEN ROWS OF THIS SEAT. 4 by the template 'for every input the law returns true; each argument reads behind the call as it read before'; 0 by the template 'total and deterministic' (their statements: YtoakgoigamigjaaTotals.lean).
  GIVEN WITH THE SEED: the statements are not yours to turn. If you find one false, say at which input.
  Laid BY PROGRAM, IN A SANDBOX (cutbox-rows.mjs): the forced cells as the released guide's own fill.sh prints them over the translation 02bf3b4a578ebdcd… (all of the seat's roots in one cut). By AI agents, Wed Nov 11 2026. No macro, syntax, notation, axiom, sorry.
-/
import Derived.Test.YtoakgoigamigjaaChecked
import GoSem.Claim
import GoSem.ClaimJoined
import GoSem.ClaimMapViews
import Derived.JoinedTies
import Derived.KernelRfl
namespace Go.Proofs.Ytoakgoigamigjaa
/- THE CELL 'sum', in the pinned program and in every row, IS THE sha256 OF THE DUMP (.gsa) THAT YtoakgoigamigjaaProg.lean LOADS. Nothing in Lean hashes anything: it is a label: what it is worth is what the hold of that sum in a sandbox is worth. -/
noncomputable def Try.pinned : Pinned := { name := "ytoakgoigamigjaa", sum := "02bf3b4a578ebdcdcae00cf64adfaf260dacff381a3d165b50f7d9601ce440a2", checked := Try.checked }
namespace Rows
def none {H : Type} : Left H := { results := [], args := [] }

/-- 'beaconrykeep.CopiesRise': WHATEVER THE INPUT: true; the input reads as it did. -/
def copiesRiseSpec : ChangeSpec := { name := "copiesRise", fn := fun _ => fun
  | [d1, d2, d3] => { results := [.lit (.bool true)], args := [d1, d2, d3] }
  | _ => none }
def copiesRiseRow : OpenClaim := { program := "ytoakgoigamigjaa", sum := "02bf3b4a578ebdcdcae00cf64adfaf260dacff381a3d165b50f7d9601ce440a2", func := "beaconry/beaconrykeep.CopiesRise", spec := "copiesRise", plainKeys := false, apart := false }
def CopiesRiseSaid : Prop := copiesRiseRow.holds Try.pinned (OpenSpec.ofChange copiesRiseSpec)

/-- ITS FALSE NEIGHBOUR: 'it returns false'. Refute it at one input. -/
def copiesRiseWrong : ChangeSpec := { name := "copiesRise", fn := fun _ => fun
  | [d1, d2, d3] => { results := [.lit (.bool false)], args := [d1, d2, d3] }
  | _ => none }
def CopiesRiseWrongFalsely : Prop := copiesRiseRow.holds Try.pinned (OpenSpec.ofChange copiesRiseWrong)

/-- 'beaconrykeep.CopiesMost': WHATEVER THE INPUT: true; the input reads as it did. -/
def copiesMostSpec : ChangeSpec := { name := "copiesMost", fn := fun _ => fun
  | [d1, d2, d3] => { results := [.lit (.bool true)], args := [d1, d2, d3] }
  | _ => none }
def copiesMostRow : OpenClaim := { program := "ytoakgoigamigjaa", sum := "02bf3b4a578ebdcdcae00cf64adfaf260dacff381a3d165b50f7d9601ce440a2", func := "beaconry/beaconrykeep.CopiesMost", spec := "copiesMost", plainKeys := false, apart := false }
def CopiesMostSaid : Prop := copiesMostRow.holds Try.pinned (OpenSpec.ofChange copiesMostSpec)

/-- ITS FALSE NEIGHBOUR: 'it returns false'. Refute it at one input. -/
def copiesMostWrong : ChangeSpec := { name := "copiesMost", fn := fun _ => fun
  | [d1, d2, d3] => { results := [.lit (.bool false)], args := [d1, d2, d3] }
  | _ => none }
def CopiesMostWrongFalsely : Prop := copiesMostRow.holds Try.pinned (OpenSpec.ofChange copiesMostWrong)

/-- 'beaconrykeep.CopiesGo': WHATEVER THE INPUT: true; the input reads as it did. -/
def copiesGoSpec : ChangeSpec := { name := "copiesGo", fn := fun _ => fun
  | [d1, d2, d3] => { results := [.lit (.bool true)], args := [d1, d2, d3] }
  | _ => none }
def copiesGoRow : OpenClaim := { program := "ytoakgoigamigjaa", sum := "02bf3b4a578ebdcdcae00cf64adfaf260dacff381a3d165b50f7d9601ce440a2", func := "beaconry/beaconrykeep.CopiesGo", spec := "copiesGo", plainKeys := false, apart := false }
def CopiesGoSaid : Prop := copiesGoRow.holds Try.pinned (OpenSpec.ofChange copiesGoSpec)

/-- ITS FALSE NEIGHBOUR: 'it returns false'. Refute it at one input. -/
def copiesGoWrong : ChangeSpec := { name := "copiesGo", fn := fun _ => fun
  | [d1, d2, d3] => { results := [.lit (.bool false)], args := [d1, d2, d3] }
  | _ => none }
def CopiesGoWrongFalsely : Prop := copiesGoRow.holds Try.pinned (OpenSpec.ofChange copiesGoWrong)

/-- 'beaconrykeep.CopiesLine': WHATEVER THE INPUT: true; the input reads as it did. -/
def copiesLineSpec : ChangeSpec := { name := "copiesLine", fn := fun _ => fun
  | [d1, d2] => { results := [.lit (.bool true)], args := [d1, d2] }
  | _ => none }
def copiesLineRow : OpenClaim := { program := "ytoakgoigamigjaa", sum := "02bf3b4a578ebdcdcae00cf64adfaf260dacff381a3d165b50f7d9601ce440a2", func := "beaconry/beaconrykeep.CopiesLine", spec := "copiesLine", unfollowed := true, recurses := true, plainKeys := false, apart := false }
def CopiesLineSaid : Prop := copiesLineRow.holds Try.pinned (OpenSpec.ofChange copiesLineSpec)

/-- ITS FALSE NEIGHBOUR: 'it returns false'. Refute it at one input. -/
def copiesLineWrong : ChangeSpec := { name := "copiesLine", fn := fun _ => fun
  | [d1, d2] => { results := [.lit (.bool false)], args := [d1, d2] }
  | _ => none }
def CopiesLineWrongFalsely : Prop := copiesLineRow.holds Try.pinned (OpenSpec.ofChange copiesLineWrong)

/- THE SECOND FORM. 'bulk': how many values and letters a reading holds, each counted each time it is reached (what is shared counts as often as it is met; a slice's spare places count too). A statement '..UptoSaid' is the law's where the arguments, and the package variables that the reading takes, are together of bulk at most 1048576: NARROWER than '..Said'. Prove '..Said' where nothing that the law and all that it calls make is longer than what came in: it says more and counts as full. Else prove '..UptoSaid'. A law counts once. -/
mutual
def uptoBulk {H : Type} : DataW H → Nat
  | .lit (.string bytes) => bytes.length + 1
  | .lit _ => 1
  | .nil => 1
  | .ptr d => uptoBulk d + 1
  | .slice elems spare => uptoBulkAll elems + uptoBulkAll spare + 1
  | .agg parts => uptoBulkAll parts + 1
  | .iface _ d => uptoBulk d + 1
  | .map entries => uptoBulkEntries entries + 1
  | .held _ => 1
def uptoBulkAll {H : Type} : List (DataW H) → Nat
  | [] => 0
  | d :: r => uptoBulk d + uptoBulkAll r
def uptoBulkEntries {H : Type} : List (Lit × DataW H) → Nat
  | [] => 0
  | x :: r => uptoBulkEntry x + uptoBulkEntries r
def uptoBulkEntry {H : Type} : Lit × DataW H → Nat
  | (.string bytes, d) => bytes.length + uptoBulk d + 1
  | (_, d) => uptoBulk d + 1
 end
def uptoSmall : (H : Type) → List (DataW H) → Bool := fun _ ds => decide (uptoBulkAll ds ≤ 1048576)
def OpenSpec.upto (s : _root_.Go.ChangeSpec) : _root_.Go.OpenSpec := { _root_.Go.OpenSpec.ofChange s with cond := some uptoSmall }

/-- 'beaconrykeep.CopiesRise', WHERE WHAT IT READS IS OF BULK AT MOST 1048576: true; the input reads as it did. -/
def copiesRiseUptoRow : OpenClaim := { program := "ytoakgoigamigjaa", sum := "02bf3b4a578ebdcdcae00cf64adfaf260dacff381a3d165b50f7d9601ce440a2", func := "beaconry/beaconrykeep.CopiesRise", spec := "copiesRise", plainKeys := false, apart := false, narrowed := true }
def CopiesRiseUptoSaid : Prop := copiesRiseUptoRow.holds Try.pinned (OpenSpec.upto copiesRiseSpec)

/-- 'beaconrykeep.CopiesMost', WHERE WHAT IT READS IS OF BULK AT MOST 1048576: true; the input reads as it did. -/
def copiesMostUptoRow : OpenClaim := { program := "ytoakgoigamigjaa", sum := "02bf3b4a578ebdcdcae00cf64adfaf260dacff381a3d165b50f7d9601ce440a2", func := "beaconry/beaconrykeep.CopiesMost", spec := "copiesMost", plainKeys := false, apart := false, narrowed := true }
def CopiesMostUptoSaid : Prop := copiesMostUptoRow.holds Try.pinned (OpenSpec.upto copiesMostSpec)

/-- 'beaconrykeep.CopiesGo', WHERE WHAT IT READS IS OF BULK AT MOST 1048576: true; the input reads as it did. -/
def copiesGoUptoRow : OpenClaim := { program := "ytoakgoigamigjaa", sum := "02bf3b4a578ebdcdcae00cf64adfaf260dacff381a3d165b50f7d9601ce440a2", func := "beaconry/beaconrykeep.CopiesGo", spec := "copiesGo", plainKeys := false, apart := false, narrowed := true }
def CopiesGoUptoSaid : Prop := copiesGoUptoRow.holds Try.pinned (OpenSpec.upto copiesGoSpec)

/-- 'beaconrykeep.CopiesLine', WHERE WHAT IT READS IS OF BULK AT MOST 1048576: true; the input reads as it did. -/
def copiesLineUptoRow : OpenClaim := { program := "ytoakgoigamigjaa", sum := "02bf3b4a578ebdcdcae00cf64adfaf260dacff381a3d165b50f7d9601ce440a2", func := "beaconry/beaconrykeep.CopiesLine", spec := "copiesLine", unfollowed := true, recurses := true, plainKeys := false, apart := false, narrowed := true }
def CopiesLineUptoSaid : Prop := copiesLineUptoRow.holds Try.pinned (OpenSpec.upto copiesLineSpec)

end Rows
end Go.Proofs.Ytoakgoigamigjaa
