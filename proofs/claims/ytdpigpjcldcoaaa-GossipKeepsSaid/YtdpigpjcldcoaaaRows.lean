/-
  No cell of these rows narrows 'for every input' (looked for: loops, veiled, ifaces, maps, wideKeys, modest, calm, conditions, laid).
  DERIVED. THE GIVEN ROWS OF THIS SEAT. 4 by the template 'for every input the law returns true; each argument reads behind the call as it read before'; 0 by the template 'total and deterministic' (their statements: YtdpigpjcldcoaaaTotals.lean).
  GIVEN WITH THE SEED: the statements are not yours to turn. If you find one false, say at which input.
  Laid BY PROGRAM, IN A SANDBOX (cutbox-rows.mjs): the forced cells as the released guide's own fill.sh prints them over the translation a7f5ad4792d8ec87… (all of the seat's roots in one cut). By AI agents, Wed Nov 11 2026. No macro, syntax, notation, axiom, sorry.
-/
import Derived.Test.YtdpigpjcldcoaaaChecked
import GoSem.Claim
import GoSem.ClaimJoined
import GoSem.ClaimMapViews
import Derived.JoinedTies
import Derived.KernelRfl
namespace Go.Proofs.Ytdpigpjcldcoaaa
/- THE CELL 'sum', in the pinned program and in every row, IS THE sha256 OF THE DUMP (.gsa) THAT YtdpigpjcldcoaaaProg.lean LOADS. Nothing in Lean hashes anything: it is a label: what it is worth is what the hold of that sum in a sandbox is worth. -/
noncomputable def Try.pinned : Pinned := { name := "ytdpigpjcldcoaaa", sum := "a7f5ad4792d8ec875e79992d637575e6c6bc51e08cb6a6b14e32a979af55227f", checked := Try.checked }
namespace Rows
def none {H : Type} : Left H := { results := [], args := [] }

/-- 'beaconrykeep.GossipSame': WHATEVER THE INPUT: true; the input reads as it did. -/
def gossipSameSpec : ChangeSpec := { name := "gossipSame", fn := fun _ => fun
  | [d1, d2] => { results := [.lit (.bool true)], args := [d1, d2] }
  | _ => none }
def gossipSameRow : OpenClaim := { program := "ytdpigpjcldcoaaa", sum := "a7f5ad4792d8ec875e79992d637575e6c6bc51e08cb6a6b14e32a979af55227f", func := "beaconry/beaconrykeep.GossipSame", spec := "gossipSame", unfollowed := true, recurses := true, apart := false }
def GossipSameSaid : Prop := gossipSameRow.holds Try.pinned (OpenSpec.ofChange gossipSameSpec)

/-- ITS FALSE NEIGHBOUR: 'it returns false'. Refute it at one input. -/
def gossipSameWrong : ChangeSpec := { name := "gossipSame", fn := fun _ => fun
  | [d1, d2] => { results := [.lit (.bool false)], args := [d1, d2] }
  | _ => none }
def GossipSameWrongFalsely : Prop := gossipSameRow.holds Try.pinned (OpenSpec.ofChange gossipSameWrong)

/-- 'beaconrykeep.GossipOdds': WHATEVER THE INPUT: true; the input reads as it did. -/
def gossipOddsSpec : ChangeSpec := { name := "gossipOdds", fn := fun _ => fun
  | [d1, d2] => { results := [.lit (.bool true)], args := [d1, d2] }
  | _ => none }
def gossipOddsRow : OpenClaim := { program := "ytdpigpjcldcoaaa", sum := "a7f5ad4792d8ec875e79992d637575e6c6bc51e08cb6a6b14e32a979af55227f", func := "beaconry/beaconrykeep.GossipOdds", spec := "gossipOdds", unfollowed := true, recurses := true, apart := false }
def GossipOddsSaid : Prop := gossipOddsRow.holds Try.pinned (OpenSpec.ofChange gossipOddsSpec)

/-- ITS FALSE NEIGHBOUR: 'it returns false'. Refute it at one input. -/
def gossipOddsWrong : ChangeSpec := { name := "gossipOdds", fn := fun _ => fun
  | [d1, d2] => { results := [.lit (.bool false)], args := [d1, d2] }
  | _ => none }
def GossipOddsWrongFalsely : Prop := gossipOddsRow.holds Try.pinned (OpenSpec.ofChange gossipOddsWrong)

/-- 'beaconrykeep.GossipOwn': WHATEVER THE INPUT: true; the input reads as it did. -/
def gossipOwnSpec : ChangeSpec := { name := "gossipOwn", fn := fun _ => fun
  | [d1, d2, d3, d4, d5] => { results := [.lit (.bool true)], args := [d1, d2, d3, d4, d5] }
  | _ => none }
def gossipOwnRow : OpenClaim := { program := "ytdpigpjcldcoaaa", sum := "a7f5ad4792d8ec875e79992d637575e6c6bc51e08cb6a6b14e32a979af55227f", func := "beaconry/beaconrykeep.GossipOwn", spec := "gossipOwn", unfollowed := true, recurses := true, apart := false }
def GossipOwnSaid : Prop := gossipOwnRow.holds Try.pinned (OpenSpec.ofChange gossipOwnSpec)

/-- ITS FALSE NEIGHBOUR: 'it returns false'. Refute it at one input. -/
def gossipOwnWrong : ChangeSpec := { name := "gossipOwn", fn := fun _ => fun
  | [d1, d2, d3, d4, d5] => { results := [.lit (.bool false)], args := [d1, d2, d3, d4, d5] }
  | _ => none }
def GossipOwnWrongFalsely : Prop := gossipOwnRow.holds Try.pinned (OpenSpec.ofChange gossipOwnWrong)

/-- 'beaconrykeep.GossipKeeps': WHATEVER THE INPUT: true; the input reads as it did. -/
def gossipKeepsSpec : ChangeSpec := { name := "gossipKeeps", fn := fun _ => fun
  | [d1, d2, d3] => { results := [.lit (.bool true)], args := [d1, d2, d3] }
  | _ => none }
def gossipKeepsRow : OpenClaim := { program := "ytdpigpjcldcoaaa", sum := "a7f5ad4792d8ec875e79992d637575e6c6bc51e08cb6a6b14e32a979af55227f", func := "beaconry/beaconrykeep.GossipKeeps", spec := "gossipKeeps", unfollowed := true, recurses := true, apart := false }
def GossipKeepsSaid : Prop := gossipKeepsRow.holds Try.pinned (OpenSpec.ofChange gossipKeepsSpec)

/-- ITS FALSE NEIGHBOUR: 'it returns false'. Refute it at one input. -/
def gossipKeepsWrong : ChangeSpec := { name := "gossipKeeps", fn := fun _ => fun
  | [d1, d2, d3] => { results := [.lit (.bool false)], args := [d1, d2, d3] }
  | _ => none }
def GossipKeepsWrongFalsely : Prop := gossipKeepsRow.holds Try.pinned (OpenSpec.ofChange gossipKeepsWrong)

/- THE SECOND FORM. 'bulk': how many values and letters a reading holds, each counted each time it is reached (what is shared counts as often as it is met; a slice's spare places count too). A statement '..UptoSaid' is the law's where the arguments, and the package variables that the reading takes, are together of bulk at most 1048576: NARROWER than '..Said'. Prove '..Said' where nothing that the law and all that it calls make is longer than what came in: it says more and counts as full. Else prove '..UptoSaid'. A law counts once. -/
mutual
def uptoBulk {H : Type} : DataW H → Nat
  | .lit (.string bytes) => bytes.length + 1
  | .lit _ => 1
  | .nil => 1
  | .ptr d => uptoBulk d + 1
  | .slice elems spare => uptoBulkAll elems + uptoBulkAll spare + 1
  | .agg parts => uptoBulkAll parts + 1
  | .iface _ d => uptoBulk d + 1
  | .map entries => uptoBulkEntries entries + 1
  | .held _ => 1
def uptoBulkAll {H : Type} : List (DataW H) → Nat
  | [] => 0
  | d :: r => uptoBulk d + uptoBulkAll r
def uptoBulkEntries {H : Type} : List (Lit × DataW H) → Nat
  | [] => 0
  | x :: r => uptoBulkEntry x + uptoBulkEntries r
def uptoBulkEntry {H : Type} : Lit × DataW H → Nat
  | (.string bytes, d) => bytes.length + uptoBulk d + 1
  | (_, d) => uptoBulk d + 1
 end
def uptoSmall : (H : Type) → List (DataW H) → Bool := fun _ ds => decide (uptoBulkAll ds ≤ 1048576)
def OpenSpec.upto (s : _root_.Go.ChangeSpec) : _root_.Go.OpenSpec := { _root_.Go.OpenSpec.ofChange s with cond := some uptoSmall }

/-- 'beaconrykeep.GossipSame', WHERE WHAT IT READS IS OF BULK AT MOST 1048576: true; the input reads as it did. -/
def gossipSameUptoRow : OpenClaim := { program := "ytdpigpjcldcoaaa", sum := "a7f5ad4792d8ec875e79992d637575e6c6bc51e08cb6a6b14e32a979af55227f", func := "beaconry/beaconrykeep.GossipSame", spec := "gossipSame", unfollowed := true, recurses := true, apart := false, narrowed := true }
def GossipSameUptoSaid : Prop := gossipSameUptoRow.holds Try.pinned (OpenSpec.upto gossipSameSpec)

/-- 'beaconrykeep.GossipOdds', WHERE WHAT IT READS IS OF BULK AT MOST 1048576: true; the input reads as it did. -/
def gossipOddsUptoRow : OpenClaim := { program := "ytdpigpjcldcoaaa", sum := "a7f5ad4792d8ec875e79992d637575e6c6bc51e08cb6a6b14e32a979af55227f", func := "beaconry/beaconrykeep.GossipOdds", spec := "gossipOdds", unfollowed := true, recurses := true, apart := false, narrowed := true }
def GossipOddsUptoSaid : Prop := gossipOddsUptoRow.holds Try.pinned (OpenSpec.upto gossipOddsSpec)

/-- 'beaconrykeep.GossipOwn', WHERE WHAT IT READS IS OF BULK AT MOST 1048576: true; the input reads as it did. -/
def gossipOwnUptoRow : OpenClaim := { program := "ytdpigpjcldcoaaa", sum := "a7f5ad4792d8ec875e79992d637575e6c6bc51e08cb6a6b14e32a979af55227f", func := "beaconry/beaconrykeep.GossipOwn", spec := "gossipOwn", unfollowed := true, recurses := true, apart := false, narrowed := true }
def GossipOwnUptoSaid : Prop := gossipOwnUptoRow.holds Try.pinned (OpenSpec.upto gossipOwnSpec)

/-- 'beaconrykeep.GossipKeeps', WHERE WHAT IT READS IS OF BULK AT MOST 1048576: true; the input reads as it did. -/
def gossipKeepsUptoRow : OpenClaim := { program := "ytdpigpjcldcoaaa", sum := "a7f5ad4792d8ec875e79992d637575e6c6bc51e08cb6a6b14e32a979af55227f", func := "beaconry/beaconrykeep.GossipKeeps", spec := "gossipKeeps", unfollowed := true, recurses := true, apart := false, narrowed := true }
def GossipKeepsUptoSaid : Prop := gossipKeepsUptoRow.holds Try.pinned (OpenSpec.upto gossipKeepsSpec)

end Rows
end Go.Proofs.Ytdpigpjcldcoaaa
