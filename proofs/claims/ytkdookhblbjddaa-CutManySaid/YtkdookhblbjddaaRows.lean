/-
  No cell of these rows narrows 'for every input' (looked for: loops, veiled, ifaces, maps, wideKeys, modest, calm, conditions, laid).
  DERIVED. THE GIVEN ROWS OF THIS SEAT. 12 by the template 'for every input the law returns true; each argument reads behind the call as it read before'; 0 by the template 'total and deterministic' (their statements: YtkdookhblbjddaaTotals.lean).
  GIVEN WITH THE SEED: the statements are not yours to turn. If you find one false, say at which input.
  Laid BY PROGRAM, IN A SANDBOX (cutbox-rows.mjs): the forced cells as the released guide's own fill.sh prints them over the translation 3fb18983497def66… (all of the seat's roots in one cut). By AI agents, Wed Nov 11 2026. No macro, syntax, notation, axiom, sorry.
-/
import Derived.Test.YtkdookhblbjddaaChecked
import GoSem.Claim
import GoSem.ClaimJoined
import GoSem.ClaimMapViews
import Derived.JoinedTies
import Derived.KernelRfl
namespace Go.Proofs.Ytkdookhblbjddaa
/- THE CELL 'sum', in the pinned program and in every row, IS THE sha256 OF THE DUMP (.gsa) THAT YtkdookhblbjddaaProg.lean LOADS. Nothing in Lean hashes anything: it is a label: what it is worth is what the hold of that sum in a sandbox is worth. -/
noncomputable def Try.pinned : Pinned := { name := "ytkdookhblbjddaa", sum := "3fb18983497def662be0788b70eccb47aa13b70be6a12b2a0e2f9998ad44ea09", checked := Try.checked }
namespace Rows
def none {H : Type} : Left H := { results := [], args := [] }

/-- 'beaconrykeep.RunTrans': WHATEVER THE INPUT: true; the input reads as it did. -/
def runTransSpec : ChangeSpec := { name := "runTrans", fn := fun _ => fun
  | [d1, d2, d3, d4, d5] => { results := [.lit (.bool true)], args := [d1, d2, d3, d4, d5] }
  | _ => none }
def runTransRow : OpenClaim := { program := "ytkdookhblbjddaa", sum := "3fb18983497def662be0788b70eccb47aa13b70be6a12b2a0e2f9998ad44ea09", func := "beaconry/beaconrykeep.RunTrans", spec := "runTrans", apart := false }
def RunTransSaid : Prop := runTransRow.holds Try.pinned (OpenSpec.ofChange runTransSpec)

/-- ITS FALSE NEIGHBOUR: 'it returns false'. Refute it at one input. -/
def runTransWrong : ChangeSpec := { name := "runTrans", fn := fun _ => fun
  | [d1, d2, d3, d4, d5] => { results := [.lit (.bool false)], args := [d1, d2, d3, d4, d5] }
  | _ => none }
def RunTransWrongFalsely : Prop := runTransRow.holds Try.pinned (OpenSpec.ofChange runTransWrong)

/-- 'beaconrykeep.RunFirst': WHATEVER THE INPUT: true; the input reads as it did. -/
def runFirstSpec : ChangeSpec := { name := "runFirst", fn := fun _ => fun
  | [d1, d2, d3, d4, d5] => { results := [.lit (.bool true)], args := [d1, d2, d3, d4, d5] }
  | _ => none }
def runFirstRow : OpenClaim := { program := "ytkdookhblbjddaa", sum := "3fb18983497def662be0788b70eccb47aa13b70be6a12b2a0e2f9998ad44ea09", func := "beaconry/beaconrykeep.RunFirst", spec := "runFirst", apart := false }
def RunFirstSaid : Prop := runFirstRow.holds Try.pinned (OpenSpec.ofChange runFirstSpec)

/-- ITS FALSE NEIGHBOUR: 'it returns false'. Refute it at one input. -/
def runFirstWrong : ChangeSpec := { name := "runFirst", fn := fun _ => fun
  | [d1, d2, d3, d4, d5] => { results := [.lit (.bool false)], args := [d1, d2, d3, d4, d5] }
  | _ => none }
def RunFirstWrongFalsely : Prop := runFirstRow.holds Try.pinned (OpenSpec.ofChange runFirstWrong)

/-- 'beaconrykeep.RunApart': WHATEVER THE INPUT: true; the input reads as it did. -/
def runApartSpec : ChangeSpec := { name := "runApart", fn := fun _ => fun
  | [d1, d2] => { results := [.lit (.bool true)], args := [d1, d2] }
  | _ => none }
def runApartRow : OpenClaim := { program := "ytkdookhblbjddaa", sum := "3fb18983497def662be0788b70eccb47aa13b70be6a12b2a0e2f9998ad44ea09", func := "beaconry/beaconrykeep.RunApart", spec := "runApart", apart := false }
def RunApartSaid : Prop := runApartRow.holds Try.pinned (OpenSpec.ofChange runApartSpec)

/-- ITS FALSE NEIGHBOUR: 'it returns false'. Refute it at one input. -/
def runApartWrong : ChangeSpec := { name := "runApart", fn := fun _ => fun
  | [d1, d2] => { results := [.lit (.bool false)], args := [d1, d2] }
  | _ => none }
def RunApartWrongFalsely : Prop := runApartRow.holds Try.pinned (OpenSpec.ofChange runApartWrong)

/-- 'beaconrykeep.RunSwap': WHATEVER THE INPUT: true; the input reads as it did. -/
def runSwapSpec : ChangeSpec := { name := "runSwap", fn := fun _ => fun
  | [d1, d2, d3] => { results := [.lit (.bool true)], args := [d1, d2, d3] }
  | _ => none }
def runSwapRow : OpenClaim := { program := "ytkdookhblbjddaa", sum := "3fb18983497def662be0788b70eccb47aa13b70be6a12b2a0e2f9998ad44ea09", func := "beaconry/beaconrykeep.RunSwap", spec := "runSwap", apart := false }
def RunSwapSaid : Prop := runSwapRow.holds Try.pinned (OpenSpec.ofChange runSwapSpec)

/-- ITS FALSE NEIGHBOUR: 'it returns false'. Refute it at one input. -/
def runSwapWrong : ChangeSpec := { name := "runSwap", fn := fun _ => fun
  | [d1, d2, d3] => { results := [.lit (.bool false)], args := [d1, d2, d3] }
  | _ => none }
def RunSwapWrongFalsely : Prop := runSwapRow.holds Try.pinned (OpenSpec.ofChange runSwapWrong)

/-- 'beaconrykeep.TickRises': WHATEVER THE INPUT: true; the input reads as it did. -/
def tickRisesSpec : ChangeSpec := { name := "tickRises", fn := fun _ => fun
  | [d1, d2, d3, d4] => { results := [.lit (.bool true)], args := [d1, d2, d3, d4] }
  | _ => none }
def tickRisesRow : OpenClaim := { program := "ytkdookhblbjddaa", sum := "3fb18983497def662be0788b70eccb47aa13b70be6a12b2a0e2f9998ad44ea09", func := "beaconry/beaconrykeep.TickRises", spec := "tickRises", apart := false }
def TickRisesSaid : Prop := tickRisesRow.holds Try.pinned (OpenSpec.ofChange tickRisesSpec)

/-- ITS FALSE NEIGHBOUR: 'it returns false'. Refute it at one input. -/
def tickRisesWrong : ChangeSpec := { name := "tickRises", fn := fun _ => fun
  | [d1, d2, d3, d4] => { results := [.lit (.bool false)], args := [d1, d2, d3, d4] }
  | _ => none }
def TickRisesWrongFalsely : Prop := tickRisesRow.holds Try.pinned (OpenSpec.ofChange tickRisesWrong)

/-- 'beaconrykeep.TickMirsky': WHATEVER THE INPUT: true; the input reads as it did. -/
def tickMirskySpec : ChangeSpec := { name := "tickMirsky", fn := fun _ => fun
  | [d1, d2, d3, d4] => { results := [.lit (.bool true)], args := [d1, d2, d3, d4] }
  | _ => none }
def tickMirskyRow : OpenClaim := { program := "ytkdookhblbjddaa", sum := "3fb18983497def662be0788b70eccb47aa13b70be6a12b2a0e2f9998ad44ea09", func := "beaconry/beaconrykeep.TickMirsky", spec := "tickMirsky", apart := false }
def TickMirskySaid : Prop := tickMirskyRow.holds Try.pinned (OpenSpec.ofChange tickMirskySpec)

/-- ITS FALSE NEIGHBOUR: 'it returns false'. Refute it at one input. -/
def tickMirskyWrong : ChangeSpec := { name := "tickMirsky", fn := fun _ => fun
  | [d1, d2, d3, d4] => { results := [.lit (.bool false)], args := [d1, d2, d3, d4] }
  | _ => none }
def TickMirskyWrongFalsely : Prop := tickMirskyRow.holds Try.pinned (OpenSpec.ofChange tickMirskyWrong)

/-- 'beaconrykeep.VectorJoin': WHATEVER THE INPUT: true; the input reads as it did. -/
def vectorJoinSpec : ChangeSpec := { name := "vectorJoin", fn := fun _ => fun
  | [d1, d2, d3] => { results := [.lit (.bool true)], args := [d1, d2, d3] }
  | _ => none }
def vectorJoinRow : OpenClaim := { program := "ytkdookhblbjddaa", sum := "3fb18983497def662be0788b70eccb47aa13b70be6a12b2a0e2f9998ad44ea09", func := "beaconry/beaconrykeep.VectorJoin", spec := "vectorJoin", apart := false }
def VectorJoinSaid : Prop := vectorJoinRow.holds Try.pinned (OpenSpec.ofChange vectorJoinSpec)

/-- ITS FALSE NEIGHBOUR: 'it returns false'. Refute it at one input. -/
def vectorJoinWrong : ChangeSpec := { name := "vectorJoin", fn := fun _ => fun
  | [d1, d2, d3] => { results := [.lit (.bool false)], args := [d1, d2, d3] }
  | _ => none }
def VectorJoinWrongFalsely : Prop := vectorJoinRow.holds Try.pinned (OpenSpec.ofChange vectorJoinWrong)

/-- 'beaconrykeep.VectorOne': WHATEVER THE INPUT: true; the input reads as it did. -/
def vectorOneSpec : ChangeSpec := { name := "vectorOne", fn := fun _ => fun
  | [d1, d2, d3, d4] => { results := [.lit (.bool true)], args := [d1, d2, d3, d4] }
  | _ => none }
def vectorOneRow : OpenClaim := { program := "ytkdookhblbjddaa", sum := "3fb18983497def662be0788b70eccb47aa13b70be6a12b2a0e2f9998ad44ea09", func := "beaconry/beaconrykeep.VectorOne", spec := "vectorOne", apart := false }
def VectorOneSaid : Prop := vectorOneRow.holds Try.pinned (OpenSpec.ofChange vectorOneSpec)

/-- ITS FALSE NEIGHBOUR: 'it returns false'. Refute it at one input. -/
def vectorOneWrong : ChangeSpec := { name := "vectorOne", fn := fun _ => fun
  | [d1, d2, d3, d4] => { results := [.lit (.bool false)], args := [d1, d2, d3, d4] }
  | _ => none }
def VectorOneWrongFalsely : Prop := vectorOneRow.holds Try.pinned (OpenSpec.ofChange vectorOneWrong)

/-- 'beaconrykeep.VectorAhead': WHATEVER THE INPUT: true; the input reads as it did. -/
def vectorAheadSpec : ChangeSpec := { name := "vectorAhead", fn := fun _ => fun
  | [d1, d2, d3, d4] => { results := [.lit (.bool true)], args := [d1, d2, d3, d4] }
  | _ => none }
def vectorAheadRow : OpenClaim := { program := "ytkdookhblbjddaa", sum := "3fb18983497def662be0788b70eccb47aa13b70be6a12b2a0e2f9998ad44ea09", func := "beaconry/beaconrykeep.VectorAhead", spec := "vectorAhead", apart := false }
def VectorAheadSaid : Prop := vectorAheadRow.holds Try.pinned (OpenSpec.ofChange vectorAheadSpec)

/-- ITS FALSE NEIGHBOUR: 'it returns false'. Refute it at one input. -/
def vectorAheadWrong : ChangeSpec := { name := "vectorAhead", fn := fun _ => fun
  | [d1, d2, d3, d4] => { results := [.lit (.bool false)], args := [d1, d2, d3, d4] }
  | _ => none }
def VectorAheadWrongFalsely : Prop := vectorAheadRow.holds Try.pinned (OpenSpec.ofChange vectorAheadWrong)

/-- 'beaconrykeep.CutJoin': WHATEVER THE INPUT: true; the input reads as it did. -/
def cutJoinSpec : ChangeSpec := { name := "cutJoin", fn := fun _ => fun
  | [d1, d2, d3, d4] => { results := [.lit (.bool true)], args := [d1, d2, d3, d4] }
  | _ => none }
def cutJoinRow : OpenClaim := { program := "ytkdookhblbjddaa", sum := "3fb18983497def662be0788b70eccb47aa13b70be6a12b2a0e2f9998ad44ea09", func := "beaconry/beaconrykeep.CutJoin", spec := "cutJoin", apart := false }
def CutJoinSaid : Prop := cutJoinRow.holds Try.pinned (OpenSpec.ofChange cutJoinSpec)

/-- ITS FALSE NEIGHBOUR: 'it returns false'. Refute it at one input. -/
def cutJoinWrong : ChangeSpec := { name := "cutJoin", fn := fun _ => fun
  | [d1, d2, d3, d4] => { results := [.lit (.bool false)], args := [d1, d2, d3, d4] }
  | _ => none }
def CutJoinWrongFalsely : Prop := cutJoinRow.holds Try.pinned (OpenSpec.ofChange cutJoinWrong)

/-- 'beaconrykeep.CutLeast': WHATEVER THE INPUT: true; the input reads as it did. -/
def cutLeastSpec : ChangeSpec := { name := "cutLeast", fn := fun _ => fun
  | [d1, d2, d3, d4] => { results := [.lit (.bool true)], args := [d1, d2, d3, d4] }
  | _ => none }
def cutLeastRow : OpenClaim := { program := "ytkdookhblbjddaa", sum := "3fb18983497def662be0788b70eccb47aa13b70be6a12b2a0e2f9998ad44ea09", func := "beaconry/beaconrykeep.CutLeast", spec := "cutLeast", apart := false }
def CutLeastSaid : Prop := cutLeastRow.holds Try.pinned (OpenSpec.ofChange cutLeastSpec)

/-- ITS FALSE NEIGHBOUR: 'it returns false'. Refute it at one input. -/
def cutLeastWrong : ChangeSpec := { name := "cutLeast", fn := fun _ => fun
  | [d1, d2, d3, d4] => { results := [.lit (.bool false)], args := [d1, d2, d3, d4] }
  | _ => none }
def CutLeastWrongFalsely : Prop := cutLeastRow.holds Try.pinned (OpenSpec.ofChange cutLeastWrong)

/-- 'beaconrykeep.CutMany': WHATEVER THE INPUT: true; the input reads as it did. -/
def cutManySpec : ChangeSpec := { name := "cutMany", fn := fun _ => fun
  | [d1, d2] => { results := [.lit (.bool true)], args := [d1, d2] }
  | _ => none }
def cutManyRow : OpenClaim := { program := "ytkdookhblbjddaa", sum := "3fb18983497def662be0788b70eccb47aa13b70be6a12b2a0e2f9998ad44ea09", func := "beaconry/beaconrykeep.CutMany", spec := "cutMany", apart := false }
def CutManySaid : Prop := cutManyRow.holds Try.pinned (OpenSpec.ofChange cutManySpec)

/-- ITS FALSE NEIGHBOUR: 'it returns false'. Refute it at one input. -/
def cutManyWrong : ChangeSpec := { name := "cutMany", fn := fun _ => fun
  | [d1, d2] => { results := [.lit (.bool false)], args := [d1, d2] }
  | _ => none }
def CutManyWrongFalsely : Prop := cutManyRow.holds Try.pinned (OpenSpec.ofChange cutManyWrong)

/- THE SECOND FORM. 'bulk': how many values and letters a reading holds, each counted each time it is reached (what is shared counts as often as it is met; a slice's spare places count too). A statement '..UptoSaid' is the law's where the arguments, and the package variables that the reading takes, are together of bulk at most 1048576: NARROWER than '..Said'. Prove '..Said' where nothing that the law and all that it calls make is longer than what came in: it says more and counts as full. Else prove '..UptoSaid'. A law counts once. -/
mutual
def uptoBulk {H : Type} : DataW H → Nat
  | .lit (.string bytes) => bytes.length + 1
  | .lit _ => 1
  | .nil => 1
  | .ptr d => uptoBulk d + 1
  | .slice elems spare => uptoBulkAll elems + uptoBulkAll spare + 1
  | .agg parts => uptoBulkAll parts + 1
  | .iface _ d => uptoBulk d + 1
  | .map entries => uptoBulkEntries entries + 1
  | .held _ => 1
def uptoBulkAll {H : Type} : List (DataW H) → Nat
  | [] => 0
  | d :: r => uptoBulk d + uptoBulkAll r
def uptoBulkEntries {H : Type} : List (Lit × DataW H) → Nat
  | [] => 0
  | x :: r => uptoBulkEntry x + uptoBulkEntries r
def uptoBulkEntry {H : Type} : Lit × DataW H → Nat
  | (.string bytes, d) => bytes.length + uptoBulk d + 1
  | (_, d) => uptoBulk d + 1
 end
def uptoSmall : (H : Type) → List (DataW H) → Bool := fun _ ds => decide (uptoBulkAll ds ≤ 1048576)
def OpenSpec.upto (s : _root_.Go.ChangeSpec) : _root_.Go.OpenSpec := { _root_.Go.OpenSpec.ofChange s with cond := some uptoSmall }

/-- 'beaconrykeep.RunTrans', WHERE WHAT IT READS IS OF BULK AT MOST 1048576: true; the input reads as it did. -/
def runTransUptoRow : OpenClaim := { program := "ytkdookhblbjddaa", sum := "3fb18983497def662be0788b70eccb47aa13b70be6a12b2a0e2f9998ad44ea09", func := "beaconry/beaconrykeep.RunTrans", spec := "runTrans", apart := false, narrowed := true }
def RunTransUptoSaid : Prop := runTransUptoRow.holds Try.pinned (OpenSpec.upto runTransSpec)

/-- 'beaconrykeep.RunFirst', WHERE WHAT IT READS IS OF BULK AT MOST 1048576: true; the input reads as it did. -/
def runFirstUptoRow : OpenClaim := { program := "ytkdookhblbjddaa", sum := "3fb18983497def662be0788b70eccb47aa13b70be6a12b2a0e2f9998ad44ea09", func := "beaconry/beaconrykeep.RunFirst", spec := "runFirst", apart := false, narrowed := true }
def RunFirstUptoSaid : Prop := runFirstUptoRow.holds Try.pinned (OpenSpec.upto runFirstSpec)

/-- 'beaconrykeep.RunApart', WHERE WHAT IT READS IS OF BULK AT MOST 1048576: true; the input reads as it did. -/
def runApartUptoRow : OpenClaim := { program := "ytkdookhblbjddaa", sum := "3fb18983497def662be0788b70eccb47aa13b70be6a12b2a0e2f9998ad44ea09", func := "beaconry/beaconrykeep.RunApart", spec := "runApart", apart := false, narrowed := true }
def RunApartUptoSaid : Prop := runApartUptoRow.holds Try.pinned (OpenSpec.upto runApartSpec)

/-- 'beaconrykeep.RunSwap', WHERE WHAT IT READS IS OF BULK AT MOST 1048576: true; the input reads as it did. -/
def runSwapUptoRow : OpenClaim := { program := "ytkdookhblbjddaa", sum := "3fb18983497def662be0788b70eccb47aa13b70be6a12b2a0e2f9998ad44ea09", func := "beaconry/beaconrykeep.RunSwap", spec := "runSwap", apart := false, narrowed := true }
def RunSwapUptoSaid : Prop := runSwapUptoRow.holds Try.pinned (OpenSpec.upto runSwapSpec)

/-- 'beaconrykeep.TickRises', WHERE WHAT IT READS IS OF BULK AT MOST 1048576: true; the input reads as it did. -/
def tickRisesUptoRow : OpenClaim := { program := "ytkdookhblbjddaa", sum := "3fb18983497def662be0788b70eccb47aa13b70be6a12b2a0e2f9998ad44ea09", func := "beaconry/beaconrykeep.TickRises", spec := "tickRises", apart := false, narrowed := true }
def TickRisesUptoSaid : Prop := tickRisesUptoRow.holds Try.pinned (OpenSpec.upto tickRisesSpec)

/-- 'beaconrykeep.TickMirsky', WHERE WHAT IT READS IS OF BULK AT MOST 1048576: true; the input reads as it did. -/
def tickMirskyUptoRow : OpenClaim := { program := "ytkdookhblbjddaa", sum := "3fb18983497def662be0788b70eccb47aa13b70be6a12b2a0e2f9998ad44ea09", func := "beaconry/beaconrykeep.TickMirsky", spec := "tickMirsky", apart := false, narrowed := true }
def TickMirskyUptoSaid : Prop := tickMirskyUptoRow.holds Try.pinned (OpenSpec.upto tickMirskySpec)

/-- 'beaconrykeep.VectorJoin', WHERE WHAT IT READS IS OF BULK AT MOST 1048576: true; the input reads as it did. -/
def vectorJoinUptoRow : OpenClaim := { program := "ytkdookhblbjddaa", sum := "3fb18983497def662be0788b70eccb47aa13b70be6a12b2a0e2f9998ad44ea09", func := "beaconry/beaconrykeep.VectorJoin", spec := "vectorJoin", apart := false, narrowed := true }
def VectorJoinUptoSaid : Prop := vectorJoinUptoRow.holds Try.pinned (OpenSpec.upto vectorJoinSpec)

/-- 'beaconrykeep.VectorOne', WHERE WHAT IT READS IS OF BULK AT MOST 1048576: true; the input reads as it did. -/
def vectorOneUptoRow : OpenClaim := { program := "ytkdookhblbjddaa", sum := "3fb18983497def662be0788b70eccb47aa13b70be6a12b2a0e2f9998ad44ea09", func := "beaconry/beaconrykeep.VectorOne", spec := "vectorOne", apart := false, narrowed := true }
def VectorOneUptoSaid : Prop := vectorOneUptoRow.holds Try.pinned (OpenSpec.upto vectorOneSpec)

/-- 'beaconrykeep.VectorAhead', WHERE WHAT IT READS IS OF BULK AT MOST 1048576: true; the input reads as it did. -/
def vectorAheadUptoRow : OpenClaim := { program := "ytkdookhblbjddaa", sum := "3fb18983497def662be0788b70eccb47aa13b70be6a12b2a0e2f9998ad44ea09", func := "beaconry/beaconrykeep.VectorAhead", spec := "vectorAhead", apart := false, narrowed := true }
def VectorAheadUptoSaid : Prop := vectorAheadUptoRow.holds Try.pinned (OpenSpec.upto vectorAheadSpec)

/-- 'beaconrykeep.CutJoin', WHERE WHAT IT READS IS OF BULK AT MOST 1048576: true; the input reads as it did. -/
def cutJoinUptoRow : OpenClaim := { program := "ytkdookhblbjddaa", sum := "3fb18983497def662be0788b70eccb47aa13b70be6a12b2a0e2f9998ad44ea09", func := "beaconry/beaconrykeep.CutJoin", spec := "cutJoin", apart := false, narrowed := true }
def CutJoinUptoSaid : Prop := cutJoinUptoRow.holds Try.pinned (OpenSpec.upto cutJoinSpec)

/-- 'beaconrykeep.CutLeast', WHERE WHAT IT READS IS OF BULK AT MOST 1048576: true; the input reads as it did. -/
def cutLeastUptoRow : OpenClaim := { program := "ytkdookhblbjddaa", sum := "3fb18983497def662be0788b70eccb47aa13b70be6a12b2a0e2f9998ad44ea09", func := "beaconry/beaconrykeep.CutLeast", spec := "cutLeast", apart := false, narrowed := true }
def CutLeastUptoSaid : Prop := cutLeastUptoRow.holds Try.pinned (OpenSpec.upto cutLeastSpec)

/-- 'beaconrykeep.CutMany', WHERE WHAT IT READS IS OF BULK AT MOST 1048576: true; the input reads as it did. -/
def cutManyUptoRow : OpenClaim := { program := "ytkdookhblbjddaa", sum := "3fb18983497def662be0788b70eccb47aa13b70be6a12b2a0e2f9998ad44ea09", func := "beaconry/beaconrykeep.CutMany", spec := "cutMany", apart := false, narrowed := true }
def CutManyUptoSaid : Prop := cutManyUptoRow.holds Try.pinned (OpenSpec.upto cutManySpec)

end Rows
end Go.Proofs.Ytkdookhblbjddaa
