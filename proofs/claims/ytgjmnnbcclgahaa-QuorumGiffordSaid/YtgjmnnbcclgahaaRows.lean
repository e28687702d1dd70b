/-
  No cell of these rows narrows 'for every input' (looked for: loops, veiled, ifaces, maps, wideKeys, modest, calm, conditions, laid).
  DERIVED. THE GIVEN ROWS OF THIS SEAT. 7 by the template 'for every input the law returns true; each argument reads behind the call as it read before'; 0 by the template 'total and deterministic' (their statements: YtgjmnnbcclgahaaTotals.lean).
  GIVEN WITH THE SEED: the statements are not yours to turn. If you find one false, say at which input.
  Laid BY PROGRAM, IN A SANDBOX (cutbox-rows.mjs): the forced cells as the released guide's own fill.sh prints them over the translation 7e83cb7417027572… (all of the seat's roots in one cut). By AI agents, Wed Nov 11 2026. No macro, syntax, notation, axiom, sorry.
-/
import Derived.Test.YtgjmnnbcclgahaaChecked
import GoSem.Claim
import GoSem.ClaimJoined
import GoSem.ClaimMapViews
import Derived.JoinedTies
import Derived.KernelRfl
namespace Go.Proofs.Ytgjmnnbcclgahaa
/- THE CELL 'sum', in the pinned program and in every row, IS THE sha256 OF THE DUMP (.gsa) THAT YtgjmnnbcclgahaaProg.lean LOADS. Nothing in Lean hashes anything: it is a label: what it is worth is what the hold of that sum in a sandbox is worth. -/
noncomputable def Try.pinned : Pinned := { name := "ytgjmnnbcclgahaa", sum := "7e83cb7417027572f916efb49f3d502f5f0a91b73eb50f0f90a74d3bc10ca1f2", checked := Try.checked }
namespace Rows
def none {H : Type} : Left H := { results := [], args := [] }

/-- 'beaconrykeep.WaitMore': WHATEVER THE INPUT: true; the input reads as it did. -/
def waitMoreSpec : ChangeSpec := { name := "waitMore", fn := fun _ => fun
  | [d1, d2, d3] => { results := [.lit (.bool true)], args := [d1, d2, d3] }
  | _ => none }
def waitMoreRow : OpenClaim := { program := "ytgjmnnbcclgahaa", sum := "7e83cb7417027572f916efb49f3d502f5f0a91b73eb50f0f90a74d3bc10ca1f2", func := "beaconry/beaconrykeep.WaitMore", spec := "waitMore", unfollowed := true, recurses := true, apart := false }
def WaitMoreSaid : Prop := waitMoreRow.holds Try.pinned (OpenSpec.ofChange waitMoreSpec)

/-- ITS FALSE NEIGHBOUR: 'it returns false'. Refute it at one input. -/
def waitMoreWrong : ChangeSpec := { name := "waitMore", fn := fun _ => fun
  | [d1, d2, d3] => { results := [.lit (.bool false)], args := [d1, d2, d3] }
  | _ => none }
def WaitMoreWrongFalsely : Prop := waitMoreRow.holds Try.pinned (OpenSpec.ofChange waitMoreWrong)

/-- 'beaconrykeep.WaitHolt': WHATEVER THE INPUT: true; the input reads as it did. -/
def waitHoltSpec : ChangeSpec := { name := "waitHolt", fn := fun _ => fun
  | [d] => { results := [.lit (.bool true)], args := [d] }
  | _ => none }
def waitHoltRow : OpenClaim := { program := "ytgjmnnbcclgahaa", sum := "7e83cb7417027572f916efb49f3d502f5f0a91b73eb50f0f90a74d3bc10ca1f2", func := "beaconry/beaconrykeep.WaitHolt", spec := "waitHolt", unfollowed := true, recurses := true, apart := false }
def WaitHoltSaid : Prop := waitHoltRow.holds Try.pinned (OpenSpec.ofChange waitHoltSpec)

/-- ITS FALSE NEIGHBOUR: 'it returns false'. Refute it at one input. -/
def waitHoltWrong : ChangeSpec := { name := "waitHolt", fn := fun _ => fun
  | [d] => { results := [.lit (.bool false)], args := [d] }
  | _ => none }
def WaitHoltWrongFalsely : Prop := waitHoltRow.holds Try.pinned (OpenSpec.ofChange waitHoltWrong)

/-- 'beaconrykeep.WaitProbe': WHATEVER THE INPUT: true; the input reads as it did. -/
def waitProbeSpec : ChangeSpec := { name := "waitProbe", fn := fun _ => fun
  | [d1, d2] => { results := [.lit (.bool true)], args := [d1, d2] }
  | _ => none }
def waitProbeRow : OpenClaim := { program := "ytgjmnnbcclgahaa", sum := "7e83cb7417027572f916efb49f3d502f5f0a91b73eb50f0f90a74d3bc10ca1f2", func := "beaconry/beaconrykeep.WaitProbe", spec := "waitProbe", unfollowed := true, recurses := true, apart := false }
def WaitProbeSaid : Prop := waitProbeRow.holds Try.pinned (OpenSpec.ofChange waitProbeSpec)

/-- ITS FALSE NEIGHBOUR: 'it returns false'. Refute it at one input. -/
def waitProbeWrong : ChangeSpec := { name := "waitProbe", fn := fun _ => fun
  | [d1, d2] => { results := [.lit (.bool false)], args := [d1, d2] }
  | _ => none }
def WaitProbeWrongFalsely : Prop := waitProbeRow.holds Try.pinned (OpenSpec.ofChange waitProbeWrong)

/-- 'beaconrykeep.QuorumMore': WHATEVER THE INPUT: true; the input reads as it did. -/
def quorumMoreSpec : ChangeSpec := { name := "quorumMore", fn := fun _ => fun
  | [d1, d2, d3, d4] => { results := [.lit (.bool true)], args := [d1, d2, d3, d4] }
  | _ => none }
def quorumMoreRow : OpenClaim := { program := "ytgjmnnbcclgahaa", sum := "7e83cb7417027572f916efb49f3d502f5f0a91b73eb50f0f90a74d3bc10ca1f2", func := "beaconry/beaconrykeep.QuorumMore", spec := "quorumMore", unfollowed := true, recurses := true, apart := false }
def QuorumMoreSaid : Prop := quorumMoreRow.holds Try.pinned (OpenSpec.ofChange quorumMoreSpec)

/-- ITS FALSE NEIGHBOUR: 'it returns false'. Refute it at one input. -/
def quorumMoreWrong : ChangeSpec := { name := "quorumMore", fn := fun _ => fun
  | [d1, d2, d3, d4] => { results := [.lit (.bool false)], args := [d1, d2, d3, d4] }
  | _ => none }
def QuorumMoreWrongFalsely : Prop := quorumMoreRow.holds Try.pinned (OpenSpec.ofChange quorumMoreWrong)

/-- 'beaconrykeep.QuorumOne': WHATEVER THE INPUT: true; the input reads as it did. -/
def quorumOneSpec : ChangeSpec := { name := "quorumOne", fn := fun _ => fun
  | [d1, d2, d3] => { results := [.lit (.bool true)], args := [d1, d2, d3] }
  | _ => none }
def quorumOneRow : OpenClaim := { program := "ytgjmnnbcclgahaa", sum := "7e83cb7417027572f916efb49f3d502f5f0a91b73eb50f0f90a74d3bc10ca1f2", func := "beaconry/beaconrykeep.QuorumOne", spec := "quorumOne", unfollowed := true, recurses := true, apart := false }
def QuorumOneSaid : Prop := quorumOneRow.holds Try.pinned (OpenSpec.ofChange quorumOneSpec)

/-- ITS FALSE NEIGHBOUR: 'it returns false'. Refute it at one input. -/
def quorumOneWrong : ChangeSpec := { name := "quorumOne", fn := fun _ => fun
  | [d1, d2, d3] => { results := [.lit (.bool false)], args := [d1, d2, d3] }
  | _ => none }
def QuorumOneWrongFalsely : Prop := quorumOneRow.holds Try.pinned (OpenSpec.ofChange quorumOneWrong)

/-- 'beaconrykeep.QuorumGifford': WHATEVER THE INPUT: true; the input reads as it did. -/
def quorumGiffordSpec : ChangeSpec := { name := "quorumGifford", fn := fun _ => fun
  | [d1, d2] => { results := [.lit (.bool true)], args := [d1, d2] }
  | _ => none }
def quorumGiffordRow : OpenClaim := { program := "ytgjmnnbcclgahaa", sum := "7e83cb7417027572f916efb49f3d502f5f0a91b73eb50f0f90a74d3bc10ca1f2", func := "beaconry/beaconrykeep.QuorumGifford", spec := "quorumGifford", unfollowed := true, recurses := true, apart := false }
def QuorumGiffordSaid : Prop := quorumGiffordRow.holds Try.pinned (OpenSpec.ofChange quorumGiffordSpec)

/-- ITS FALSE NEIGHBOUR: 'it returns false'. Refute it at one input. -/
def quorumGiffordWrong : ChangeSpec := { name := "quorumGifford", fn := fun _ => fun
  | [d1, d2] => { results := [.lit (.bool false)], args := [d1, d2] }
  | _ => none }
def QuorumGiffordWrongFalsely : Prop := quorumGiffordRow.holds Try.pinned (OpenSpec.ofChange quorumGiffordWrong)

/-- 'beaconrykeep.QuorumBetter': WHATEVER THE INPUT: true; the input reads as it did. -/
def quorumBetterSpec : ChangeSpec := { name := "quorumBetter", fn := fun _ => fun
  | [d1, d2] => { results := [.lit (.bool true)], args := [d1, d2] }
  | _ => none }
def quorumBetterRow : OpenClaim := { program := "ytgjmnnbcclgahaa", sum := "7e83cb7417027572f916efb49f3d502f5f0a91b73eb50f0f90a74d3bc10ca1f2", func := "beaconry/beaconrykeep.QuorumBetter", spec := "quorumBetter", unfollowed := true, recurses := true, apart := false }
def QuorumBetterSaid : Prop := quorumBetterRow.holds Try.pinned (OpenSpec.ofChange quorumBetterSpec)

/-- ITS FALSE NEIGHBOUR: 'it returns false'. Refute it at one input. -/
def quorumBetterWrong : ChangeSpec := { name := "quorumBetter", fn := fun _ => fun
  | [d1, d2] => { results := [.lit (.bool false)], args := [d1, d2] }
  | _ => none }
def QuorumBetterWrongFalsely : Prop := quorumBetterRow.holds Try.pinned (OpenSpec.ofChange quorumBetterWrong)

/- THE SECOND FORM. 'bulk': how many values and letters a reading holds, each counted each time it is reached (what is shared counts as often as it is met; a slice's spare places count too). A statement '..UptoSaid' is the law's where the arguments, and the package variables that the reading takes, are together of bulk at most 1048576: NARROWER than '..Said'. Prove '..Said' where nothing that the law and all that it calls make is longer than what came in: it says more and counts as full. Else prove '..UptoSaid'. A law counts once. -/
mutual
def uptoBulk {H : Type} : DataW H → Nat
  | .lit (.string bytes) => bytes.length + 1
  | .lit _ => 1
  | .nil => 1
  | .ptr d => uptoBulk d + 1
  | .slice elems spare => uptoBulkAll elems + uptoBulkAll spare + 1
  | .agg parts => uptoBulkAll parts + 1
  | .iface _ d => uptoBulk d + 1
  | .map entries => uptoBulkEntries entries + 1
  | .held _ => 1
def uptoBulkAll {H : Type} : List (DataW H) → Nat
  | [] => 0
  | d :: r => uptoBulk d + uptoBulkAll r
def uptoBulkEntries {H : Type} : List (Lit × DataW H) → Nat
  | [] => 0
  | x :: r => uptoBulkEntry x + uptoBulkEntries r
def uptoBulkEntry {H : Type} : Lit × DataW H → Nat
  | (.string bytes, d) => bytes.length + uptoBulk d + 1
  | (_, d) => uptoBulk d + 1
 end
def uptoSmall : (H : Type) → List (DataW H) → Bool := fun _ ds => decide (uptoBulkAll ds ≤ 1048576)
def OpenSpec.upto (s : _root_.Go.ChangeSpec) : _root_.Go.OpenSpec := { _root_.Go.OpenSpec.ofChange s with cond := some uptoSmall }

/-- 'beaconrykeep.WaitMore', WHERE WHAT IT READS IS OF BULK AT MOST 1048576: true; the input reads as it did. -/
def waitMoreUptoRow : OpenClaim := { program := "ytgjmnnbcclgahaa", sum := "7e83cb7417027572f916efb49f3d502f5f0a91b73eb50f0f90a74d3bc10ca1f2", func := "beaconry/beaconrykeep.WaitMore", spec := "waitMore", unfollowed := true, recurses := true, apart := false, narrowed := true }
def WaitMoreUptoSaid : Prop := waitMoreUptoRow.holds Try.pinned (OpenSpec.upto waitMoreSpec)

/-- 'beaconrykeep.WaitHolt', WHERE WHAT IT READS IS OF BULK AT MOST 1048576: true; the input reads as it did. -/
def waitHoltUptoRow : OpenClaim := { program := "ytgjmnnbcclgahaa", sum := "7e83cb7417027572f916efb49f3d502f5f0a91b73eb50f0f90a74d3bc10ca1f2", func := "beaconry/beaconrykeep.WaitHolt", spec := "waitHolt", unfollowed := true, recurses := true, apart := false, narrowed := true }
def WaitHoltUptoSaid : Prop := waitHoltUptoRow.holds Try.pinned (OpenSpec.upto waitHoltSpec)

/-- 'beaconrykeep.WaitProbe', WHERE WHAT IT READS IS OF BULK AT MOST 1048576: true; the input reads as it did. -/
def waitProbeUptoRow : OpenClaim := { program := "ytgjmnnbcclgahaa", sum := "7e83cb7417027572f916efb49f3d502f5f0a91b73eb50f0f90a74d3bc10ca1f2", func := "beaconry/beaconrykeep.WaitProbe", spec := "waitProbe", unfollowed := true, recurses := true, apart := false, narrowed := true }
def WaitProbeUptoSaid : Prop := waitProbeUptoRow.holds Try.pinned (OpenSpec.upto waitProbeSpec)

/-- 'beaconrykeep.QuorumMore', WHERE WHAT IT READS IS OF BULK AT MOST 1048576: true; the input reads as it did. -/
def quorumMoreUptoRow : OpenClaim := { program := "ytgjmnnbcclgahaa", sum := "7e83cb7417027572f916efb49f3d502f5f0a91b73eb50f0f90a74d3bc10ca1f2", func := "beaconry/beaconrykeep.QuorumMore", spec := "quorumMore", unfollowed := true, recurses := true, apart := false, narrowed := true }
def QuorumMoreUptoSaid : Prop := quorumMoreUptoRow.holds Try.pinned (OpenSpec.upto quorumMoreSpec)

/-- 'beaconrykeep.QuorumOne', WHERE WHAT IT READS IS OF BULK AT MOST 1048576: true; the input reads as it did. -/
def quorumOneUptoRow : OpenClaim := { program := "ytgjmnnbcclgahaa", sum := "7e83cb7417027572f916efb49f3d502f5f0a91b73eb50f0f90a74d3bc10ca1f2", func := "beaconry/beaconrykeep.QuorumOne", spec := "quorumOne", unfollowed := true, recurses := true, apart := false, narrowed := true }
def QuorumOneUptoSaid : Prop := quorumOneUptoRow.holds Try.pinned (OpenSpec.upto quorumOneSpec)

/-- 'beaconrykeep.QuorumGifford', WHERE WHAT IT READS IS OF BULK AT MOST 1048576: true; the input reads as it did. -/
def quorumGiffordUptoRow : OpenClaim := { program := "ytgjmnnbcclgahaa", sum := "7e83cb7417027572f916efb49f3d502f5f0a91b73eb50f0f90a74d3bc10ca1f2", func := "beaconry/beaconrykeep.QuorumGifford", spec := "quorumGifford", unfollowed := true, recurses := true, apart := false, narrowed := true }
def QuorumGiffordUptoSaid : Prop := quorumGiffordUptoRow.holds Try.pinned (OpenSpec.upto quorumGiffordSpec)

/-- 'beaconrykeep.QuorumBetter', WHERE WHAT IT READS IS OF BULK AT MOST 1048576: true; the input reads as it did. -/
def quorumBetterUptoRow : OpenClaim := { program := "ytgjmnnbcclgahaa", sum := "7e83cb7417027572f916efb49f3d502f5f0a91b73eb50f0f90a74d3bc10ca1f2", func := "beaconry/beaconrykeep.QuorumBetter", spec := "quorumBetter", unfollowed := true, recurses := true, apart := false, narrowed := true }
def QuorumBetterUptoSaid : Prop := quorumBetterUptoRow.holds Try.pinned (OpenSpec.upto quorumBetterSpec)

end Rows
end Go.Proofs.Ytgjmnnbcclgahaa
