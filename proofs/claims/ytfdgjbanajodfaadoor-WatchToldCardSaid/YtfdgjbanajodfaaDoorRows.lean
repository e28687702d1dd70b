/-
  NARROWER THAN 'FOR EVERY INPUT', by the rows' own cells (each row's printed sentence says how): WatchOnce: laid · WatchFires: laid · WatchTold: laid · TopOwn: laid · TopSync: laid · TopSame: laid.
  DERIVED. THE GIVEN ROWS OF THIS SEAT. 6 by the template 'for every input the law returns true; each argument reads behind the call as it read before'; 0 by the template 'total and deterministic' (their statements: YtfdgjbanajodfaaDoorTotals.lean).
  GIVEN WITH THE SEED: the statements are not yours to turn. If you find one false, say at which input.
  Laid BY PROGRAM, IN A SANDBOX (cutbox-rows.mjs): the forced cells as the released guide's own fill.sh prints them over the translation f663965954238a91… (all of the seat's roots in one cut). By AI agents, Wed Nov 11 2026. No macro, syntax, notation, axiom, sorry.
-/
import Derived.Test.YtfdgjbanajodfaaDoorChecked
import GoSem.PinnedTables
import GoSem.Claim
import GoSem.ClaimJoined
import GoSem.ClaimMapViews
import Derived.JoinedTies
import Derived.KernelRfl
namespace Go.Proofs.YtfdgjbanajodfaaDoor
/- THE CELL 'sum', in the pinned program and in every row, IS THE sha256 OF THE DUMP (.gsa) THAT YtfdgjbanajodfaaDoorProg.lean LOADS. Nothing in Lean hashes anything: it is a label: what it is worth is what the hold of that sum in a sandbox is worth. -/
noncomputable def Tryd.pinned : Pinned := { name := "ytfdgjbanajodfaadoor", sum := "f663965954238a91b583da47b2bf3b8fa9ae510fc2fc6ee941d1d41861e79524", checked := Tryd.checked }
namespace Rows
def none {H : Type} : Left H := { results := [], args := [] }

/- WHAT THE LISTED PACKAGE-LEVEL VARIABLES READ AS WHEN THE CALL BEGINS. Each datum BY PROGRAM (the guide's laid-datum.mjs) off the statement by which the dump's own 'gosem.cut.vars' lays the variable. In a bare row this is a premise. The card (YtfdgjbanajodfaaDoorCards.lean) ties it to the program's text. -/
def laid_unicode_utf8_acceptRanges {H : Type} : DataW H := .agg [.agg [.lit (.int .u8 128), .lit (.int .u8 191)], .agg [.lit (.int .u8 160), .lit (.int .u8 191)], .agg [.lit (.int .u8 128), .lit (.int .u8 159)], .agg [.lit (.int .u8 144), .lit (.int .u8 191)], .agg [.lit (.int .u8 128), .lit (.int .u8 143)], .agg [.lit (.int .u8 0), .lit (.int .u8 0)], .agg [.lit (.int .u8 0), .lit (.int .u8 0)], .agg [.lit (.int .u8 0), .lit (.int .u8 0)], .agg [.lit (.int .u8 0), .lit (.int .u8 0)], .agg [.lit (.int .u8 0), .lit (.int .u8 0)], .agg [.lit (.int .u8 0), .lit (.int .u8 0)], .agg [.lit (.int .u8 0), .lit (.int .u8 0)], .agg [.lit (.int .u8 0), .lit (.int .u8 0)], .agg [.lit (.int .u8 0), .lit (.int .u8 0)], .agg [.lit (.int .u8 0), .lit (.int .u8 0)], .agg [.lit (.int .u8 0), .lit (.int .u8 0)]]
/-- One of Go's own tables, pinned by name: the form's constant. -/
def laid_unicode_utf8_first : DataW Unit := Go.Pinned.utf8First

/-- 'beaconrykeep.WatchOnce': WHATEVER THE INPUT: true; the input reads as it did. -/
def watchOnceSpec : ChangeSpec := { name := "watchOnce", fn := fun _ => fun
  | [d1, d2] => { results := [.lit (.bool true)], args := [d1, d2] }
  | _ => none }
def watchOnceRow : OpenClaim := { program := "ytfdgjbanajodfaadoor", sum := "f663965954238a91b583da47b2bf3b8fa9ae510fc2fc6ee941d1d41861e79524", func := "beaconry/beaconrykeep.WatchOnce", spec := "watchOnce", inPlace := ["internal/bytealg.IndexByteString", "internal/bytealg.IndexString"], unfollowed := true, recurses := true, named := ["unicode/utf8.first", "unicode/utf8.acceptRanges", "internal/bytealg.MaxLen"], plainKeys := false, apart := false, laid := [("unicode/utf8.acceptRanges", laid_unicode_utf8_acceptRanges), ("unicode/utf8.first", laid_unicode_utf8_first)] }
def WatchOnceSaid : Prop := watchOnceRow.holds Tryd.pinned (OpenSpec.ofChange watchOnceSpec)

/-- ITS FALSE NEIGHBOUR: 'it returns false'. Refute it at one input. -/
def watchOnceWrong : ChangeSpec := { name := "watchOnce", fn := fun _ => fun
  | [d1, d2] => { results := [.lit (.bool false)], args := [d1, d2] }
  | _ => none }
def WatchOnceWrongFalsely : Prop := watchOnceRow.holds Tryd.pinned (OpenSpec.ofChange watchOnceWrong)

/-- 'beaconrykeep.WatchFires': WHATEVER THE INPUT: true; the input reads as it did. -/
def watchFiresSpec : ChangeSpec := { name := "watchFires", fn := fun _ => fun
  | [d1, d2, d3] => { results := [.lit (.bool true)], args := [d1, d2, d3] }
  | _ => none }
def watchFiresRow : OpenClaim := { program := "ytfdgjbanajodfaadoor", sum := "f663965954238a91b583da47b2bf3b8fa9ae510fc2fc6ee941d1d41861e79524", func := "beaconry/beaconrykeep.WatchFires", spec := "watchFires", inPlace := ["internal/bytealg.IndexByteString", "internal/bytealg.IndexString"], unfollowed := true, recurses := true, named := ["unicode/utf8.first", "unicode/utf8.acceptRanges", "internal/bytealg.MaxLen"], plainKeys := false, apart := false, laid := [("unicode/utf8.acceptRanges", laid_unicode_utf8_acceptRanges), ("unicode/utf8.first", laid_unicode_utf8_first)] }
def WatchFiresSaid : Prop := watchFiresRow.holds Tryd.pinned (OpenSpec.ofChange watchFiresSpec)

/-- ITS FALSE NEIGHBOUR: 'it returns false'. Refute it at one input. -/
def watchFiresWrong : ChangeSpec := { name := "watchFires", fn := fun _ => fun
  | [d1, d2, d3] => { results := [.lit (.bool false)], args := [d1, d2, d3] }
  | _ => none }
def WatchFiresWrongFalsely : Prop := watchFiresRow.holds Tryd.pinned (OpenSpec.ofChange watchFiresWrong)

/-- 'beaconrykeep.WatchTold': WHATEVER THE INPUT: true; the input reads as it did. -/
def watchToldSpec : ChangeSpec := { name := "watchTold", fn := fun _ => fun
  | [d] => { results := [.lit (.bool true)], args := [d] }
  | _ => none }
def watchToldRow : OpenClaim := { program := "ytfdgjbanajodfaadoor", sum := "f663965954238a91b583da47b2bf3b8fa9ae510fc2fc6ee941d1d41861e79524", func := "beaconry/beaconrykeep.WatchTold", spec := "watchTold", inPlace := ["internal/bytealg.IndexByteString", "internal/bytealg.IndexString"], unfollowed := true, recurses := true, named := ["unicode/utf8.first", "unicode/utf8.acceptRanges", "internal/bytealg.MaxLen"], plainKeys := false, apart := false, laid := [("unicode/utf8.acceptRanges", laid_unicode_utf8_acceptRanges), ("unicode/utf8.first", laid_unicode_utf8_first)] }
def WatchToldSaid : Prop := watchToldRow.holds Tryd.pinned (OpenSpec.ofChange watchToldSpec)

/-- ITS FALSE NEIGHBOUR: 'it returns false'. Refute it at one input. -/
def watchToldWrong : ChangeSpec := { name := "watchTold", fn := fun _ => fun
  | [d] => { results := [.lit (.bool false)], args := [d] }
  | _ => none }
def WatchToldWrongFalsely : Prop := watchToldRow.holds Tryd.pinned (OpenSpec.ofChange watchToldWrong)

/-- 'beaconrytop.TopOwn': WHATEVER THE INPUT: true; the input reads as it did. -/
def topOwnSpec : ChangeSpec := { name := "topOwn", fn := fun _ => fun
  | [d1, d2, d3, d4, d5] => { results := [.lit (.bool true)], args := [d1, d2, d3, d4, d5] }
  | _ => none }
def topOwnRow : OpenClaim := { program := "ytfdgjbanajodfaadoor", sum := "f663965954238a91b583da47b2bf3b8fa9ae510fc2fc6ee941d1d41861e79524", func := "beaconry/beaconrytop.TopOwn", spec := "topOwn", inPlace := ["internal/bytealg.IndexByteString", "internal/bytealg.IndexString"], unfollowed := true, recurses := true, named := ["unicode/utf8.first", "unicode/utf8.acceptRanges", "internal/bytealg.MaxLen"], plainKeys := false, apart := false, laid := [("unicode/utf8.acceptRanges", laid_unicode_utf8_acceptRanges), ("unicode/utf8.first", laid_unicode_utf8_first)] }
def TopOwnSaid : Prop := topOwnRow.holds Tryd.pinned (OpenSpec.ofChange topOwnSpec)

/-- ITS FALSE NEIGHBOUR: 'it returns false'. Refute it at one input. -/
def topOwnWrong : ChangeSpec := { name := "topOwn", fn := fun _ => fun
  | [d1, d2, d3, d4, d5] => { results := [.lit (.bool false)], args := [d1, d2, d3, d4, d5] }
  | _ => none }
def TopOwnWrongFalsely : Prop := topOwnRow.holds Tryd.pinned (OpenSpec.ofChange topOwnWrong)

/-- 'beaconrytop.TopSync': WHATEVER THE INPUT: true; the input reads as it did. -/
def topSyncSpec : ChangeSpec := { name := "topSync", fn := fun _ => fun
  | [d1, d2, d3] => { results := [.lit (.bool true)], args := [d1, d2, d3] }
  | _ => none }
def topSyncRow : OpenClaim := { program := "ytfdgjbanajodfaadoor", sum := "f663965954238a91b583da47b2bf3b8fa9ae510fc2fc6ee941d1d41861e79524", func := "beaconry/beaconrytop.TopSync", spec := "topSync", inPlace := ["internal/bytealg.IndexByteString", "internal/bytealg.IndexString"], unfollowed := true, recurses := true, named := ["unicode/utf8.first", "unicode/utf8.acceptRanges", "internal/bytealg.MaxLen"], plainKeys := false, apart := false, laid := [("unicode/utf8.acceptRanges", laid_unicode_utf8_acceptRanges), ("unicode/utf8.first", laid_unicode_utf8_first)] }
def TopSyncSaid : Prop := topSyncRow.holds Tryd.pinned (OpenSpec.ofChange topSyncSpec)

/-- ITS FALSE NEIGHBOUR: 'it returns false'. Refute it at one input. -/
def topSyncWrong : ChangeSpec := { name := "topSync", fn := fun _ => fun
  | [d1, d2, d3] => { results := [.lit (.bool false)], args := [d1, d2, d3] }
  | _ => none }
def TopSyncWrongFalsely : Prop := topSyncRow.holds Tryd.pinned (OpenSpec.ofChange topSyncWrong)

/-- 'beaconrytop.TopSame': WHATEVER THE INPUT: true; the input reads as it did. -/
def topSameSpec : ChangeSpec := { name := "topSame", fn := fun _ => fun
  | [d1, d2, d3, d4, d5, d6] => { results := [.lit (.bool true)], args := [d1, d2, d3, d4, d5, d6] }
  | _ => none }
def topSameRow : OpenClaim := { program := "ytfdgjbanajodfaadoor", sum := "f663965954238a91b583da47b2bf3b8fa9ae510fc2fc6ee941d1d41861e79524", func := "beaconry/beaconrytop.TopSame", spec := "topSame", inPlace := ["internal/bytealg.IndexByteString", "internal/bytealg.IndexString"], unfollowed := true, recurses := true, named := ["unicode/utf8.first", "unicode/utf8.acceptRanges", "internal/bytealg.MaxLen"], plainKeys := false, apart := false, laid := [("unicode/utf8.acceptRanges", laid_unicode_utf8_acceptRanges), ("unicode/utf8.first", laid_unicode_utf8_first)] }
def TopSameSaid : Prop := topSameRow.holds Tryd.pinned (OpenSpec.ofChange topSameSpec)

/-- ITS FALSE NEIGHBOUR: 'it returns false'. Refute it at one input. -/
def topSameWrong : ChangeSpec := { name := "topSame", fn := fun _ => fun
  | [d1, d2, d3, d4, d5, d6] => { results := [.lit (.bool false)], args := [d1, d2, d3, d4, d5, d6] }
  | _ => none }
def TopSameWrongFalsely : Prop := topSameRow.holds Tryd.pinned (OpenSpec.ofChange topSameWrong)

/- THE SECOND FORM. 'bulk': how many values and letters a reading holds, each counted each time it is reached (what is shared counts as often as it is met; a slice's spare places count too). A statement '..UptoSaid' is the law's where the arguments, and the package variables that the reading takes, are together of bulk at most 1048576: NARROWER than '..Said'. Prove '..Said' where nothing that the law and all that it calls make is longer than what came in: it says more and counts as full. Else prove '..UptoSaid'. A law counts once. -/
mutual
def uptoBulk {H : Type} : DataW H → Nat
  | .lit (.string bytes) => bytes.length + 1
  | .lit _ => 1
  | .nil => 1
  | .ptr d => uptoBulk d + 1
  | .slice elems spare => uptoBulkAll elems + uptoBulkAll spare + 1
  | .agg parts => uptoBulkAll parts + 1
  | .iface _ d => uptoBulk d + 1
  | .map entries => uptoBulkEntries entries + 1
  | .held _ => 1
def uptoBulkAll {H : Type} : List (DataW H) → Nat
  | [] => 0
  | d :: r => uptoBulk d + uptoBulkAll r
def uptoBulkEntries {H : Type} : List (Lit × DataW H) → Nat
  | [] => 0
  | x :: r => uptoBulkEntry x + uptoBulkEntries r
def uptoBulkEntry {H : Type} : Lit × DataW H → Nat
  | (.string bytes, d) => bytes.length + uptoBulk d + 1
  | (_, d) => uptoBulk d + 1
 end
def uptoSmall : (H : Type) → List (DataW H) → Bool := fun _ ds => decide (uptoBulkAll ds ≤ 1048576)
def OpenSpec.upto (s : _root_.Go.ChangeSpec) : _root_.Go.OpenSpec := { _root_.Go.OpenSpec.ofChange s with cond := some uptoSmall }

/-- 'beaconrykeep.WatchOnce', WHERE WHAT IT READS IS OF BULK AT MOST 1048576: true; the input reads as it did. -/
def watchOnceUptoRow : OpenClaim := { program := "ytfdgjbanajodfaadoor", sum := "f663965954238a91b583da47b2bf3b8fa9ae510fc2fc6ee941d1d41861e79524", func := "beaconry/beaconrykeep.WatchOnce", spec := "watchOnce", inPlace := ["internal/bytealg.IndexByteString", "internal/bytealg.IndexString"], unfollowed := true, recurses := true, named := ["unicode/utf8.first", "unicode/utf8.acceptRanges", "internal/bytealg.MaxLen"], plainKeys := false, apart := false, laid := [("unicode/utf8.acceptRanges", laid_unicode_utf8_acceptRanges), ("unicode/utf8.first", laid_unicode_utf8_first)], narrowed := true }
def WatchOnceUptoSaid : Prop := watchOnceUptoRow.holds Tryd.pinned (OpenSpec.upto watchOnceSpec)

/-- 'beaconrykeep.WatchFires', WHERE WHAT IT READS IS OF BULK AT MOST 1048576: true; the input reads as it did. -/
def watchFiresUptoRow : OpenClaim := { program := "ytfdgjbanajodfaadoor", sum := "f663965954238a91b583da47b2bf3b8fa9ae510fc2fc6ee941d1d41861e79524", func := "beaconry/beaconrykeep.WatchFires", spec := "watchFires", inPlace := ["internal/bytealg.IndexByteString", "internal/bytealg.IndexString"], unfollowed := true, recurses := true, named := ["unicode/utf8.first", "unicode/utf8.acceptRanges", "internal/bytealg.MaxLen"], plainKeys := false, apart := false, laid := [("unicode/utf8.acceptRanges", laid_unicode_utf8_acceptRanges), ("unicode/utf8.first", laid_unicode_utf8_first)], narrowed := true }
def WatchFiresUptoSaid : Prop := watchFiresUptoRow.holds Tryd.pinned (OpenSpec.upto watchFiresSpec)

/-- 'beaconrykeep.WatchTold', WHERE WHAT IT READS IS OF BULK AT MOST 1048576: true; the input reads as it did. -/
def watchToldUptoRow : OpenClaim := { program := "ytfdgjbanajodfaadoor", sum := "f663965954238a91b583da47b2bf3b8fa9ae510fc2fc6ee941d1d41861e79524", func := "beaconry/beaconrykeep.WatchTold", spec := "watchTold", inPlace := ["internal/bytealg.IndexByteString", "internal/bytealg.IndexString"], unfollowed := true, recurses := true, named := ["unicode/utf8.first", "unicode/utf8.acceptRanges", "internal/bytealg.MaxLen"], plainKeys := false, apart := false, laid := [("unicode/utf8.acceptRanges", laid_unicode_utf8_acceptRanges), ("unicode/utf8.first", laid_unicode_utf8_first)], narrowed := true }
def WatchToldUptoSaid : Prop := watchToldUptoRow.holds Tryd.pinned (OpenSpec.upto watchToldSpec)

/-- 'beaconrytop.TopOwn', WHERE WHAT IT READS IS OF BULK AT MOST 1048576: true; the input reads as it did. -/
def topOwnUptoRow : OpenClaim := { program := "ytfdgjbanajodfaadoor", sum := "f663965954238a91b583da47b2bf3b8fa9ae510fc2fc6ee941d1d41861e79524", func := "beaconry/beaconrytop.TopOwn", spec := "topOwn", inPlace := ["internal/bytealg.IndexByteString", "internal/bytealg.IndexString"], unfollowed := true, recurses := true, named := ["unicode/utf8.first", "unicode/utf8.acceptRanges", "internal/bytealg.MaxLen"], plainKeys := false, apart := false, laid := [("unicode/utf8.acceptRanges", laid_unicode_utf8_acceptRanges), ("unicode/utf8.first", laid_unicode_utf8_first)], narrowed := true }
def TopOwnUptoSaid : Prop := topOwnUptoRow.holds Tryd.pinned (OpenSpec.upto topOwnSpec)

/-- 'beaconrytop.TopSync', WHERE WHAT IT READS IS OF BULK AT MOST 1048576: true; the input reads as it did. -/
def topSyncUptoRow : OpenClaim := { program := "ytfdgjbanajodfaadoor", sum := "f663965954238a91b583da47b2bf3b8fa9ae510fc2fc6ee941d1d41861e79524", func := "beaconry/beaconrytop.TopSync", spec := "topSync", inPlace := ["internal/bytealg.IndexByteString", "internal/bytealg.IndexString"], unfollowed := true, recurses := true, named := ["unicode/utf8.first", "unicode/utf8.acceptRanges", "internal/bytealg.MaxLen"], plainKeys := false, apart := false, laid := [("unicode/utf8.acceptRanges", laid_unicode_utf8_acceptRanges), ("unicode/utf8.first", laid_unicode_utf8_first)], narrowed := true }
def TopSyncUptoSaid : Prop := topSyncUptoRow.holds Tryd.pinned (OpenSpec.upto topSyncSpec)

/-- 'beaconrytop.TopSame', WHERE WHAT IT READS IS OF BULK AT MOST 1048576: true; the input reads as it did. -/
def topSameUptoRow : OpenClaim := { program := "ytfdgjbanajodfaadoor", sum := "f663965954238a91b583da47b2bf3b8fa9ae510fc2fc6ee941d1d41861e79524", func := "beaconry/beaconrytop.TopSame", spec := "topSame", inPlace := ["internal/bytealg.IndexByteString", "internal/bytealg.IndexString"], unfollowed := true, recurses := true, named := ["unicode/utf8.first", "unicode/utf8.acceptRanges", "internal/bytealg.MaxLen"], plainKeys := false, apart := false, laid := [("unicode/utf8.acceptRanges", laid_unicode_utf8_acceptRanges), ("unicode/utf8.first", laid_unicode_utf8_first)], narrowed := true }
def TopSameUptoSaid : Prop := topSameUptoRow.holds Tryd.pinned (OpenSpec.upto topSameSpec)

end Rows
end Go.Proofs.YtfdgjbanajodfaaDoor
