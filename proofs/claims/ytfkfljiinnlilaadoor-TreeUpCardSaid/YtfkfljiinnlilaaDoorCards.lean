/-
  DERIVED. GIVEN WITH THE SEED: THE CARDS: each row of YtfkfljiinnlilaaDoorRows.lean that lists a variable, with what it lists TIED to the program's text (the seventh form; the later family's looks); each row that meets fmt, with fmt's text TOLD by the authors' own Lean function (tested against real Go, not proved from fmt's source: count such statements apart). THE CARD IS WHAT COUNTS. Prove the row's statement (the work); the ties are given (YtfkfljiinnlilaaDoorTie.lean); close each card by the builder's one call (the guide's Derived/Test/ToyasCard.lean, 'card_holds'). Laid BY PROGRAM, IN A SANDBOX (cutbox-door.mjs). By AI agents, Wed Nov 11 2026. No macro, syntax, notation, axiom, sorry.
-/
import Derived.Test.YtfkfljiinnlilaaDoorRows
import GoSem.ClaimSeven
namespace Go.Proofs.YtfkfljiinnlilaaDoor
namespace Rows

/-- THE TIED CARD OF 'beaconrykeep.TreeUp'. -/
def treeUpCard : Claim7 := { stood := { row := treeUpRow, standIns := [], harness := (true, "26cbeac0c10e737558e47737a000050a85f8d3065bdb217fa5efeb248c20f782"), looks := false }, kinds := [], alts := [], laidByText := true, laidKinds := [.data, .pinned], laidTests := true, laidLooks := .later }
def TreeUpCardSaid : Prop := Claim7.holds Tryd.pinned (.plain (OpenSpec.ofChange treeUpSpec)) treeUpCard

/-- THE TIED CARD OF 'beaconrykeep.TreeSet'. -/
def treeSetCard : Claim7 := { stood := { row := treeSetRow, standIns := [], harness := (true, "26cbeac0c10e737558e47737a000050a85f8d3065bdb217fa5efeb248c20f782"), looks := false }, kinds := [], alts := [], laidByText := true, laidKinds := [.data, .pinned], laidTests := true, laidLooks := .later }
def TreeSetCardSaid : Prop := Claim7.holds Tryd.pinned (.plain (OpenSpec.ofChange treeSetSpec)) treeSetCard

/-- THE TIED CARD OF 'beaconrykeep.TreeBack'. -/
def treeBackCard : Claim7 := { stood := { row := treeBackRow, standIns := [], harness := (true, "26cbeac0c10e737558e47737a000050a85f8d3065bdb217fa5efeb248c20f782"), looks := false }, kinds := [], alts := [], laidByText := true, laidKinds := [.data, .pinned], laidTests := true, laidLooks := .later }
def TreeBackCardSaid : Prop := Claim7.holds Tryd.pinned (.plain (OpenSpec.ofChange treeBackSpec)) treeBackCard

/-- THE TIED CARD OF 'beaconrykeep.TreeMany'. -/
def treeManyCard : Claim7 := { stood := { row := treeManyRow, standIns := [], harness := (true, "26cbeac0c10e737558e47737a000050a85f8d3065bdb217fa5efeb248c20f782"), looks := false }, kinds := [], alts := [], laidByText := true, laidKinds := [.data, .pinned], laidTests := true, laidLooks := .later }
def TreeManyCardSaid : Prop := Claim7.holds Tryd.pinned (.plain (OpenSpec.ofChange treeManySpec)) treeManyCard

/-- THE SECOND FORM's CARD OF 'beaconrykeep.TreeUp'. -/
def treeUpUptoCard : Claim7 := { stood := { row := treeUpUptoRow, standIns := [], harness := (true, "26cbeac0c10e737558e47737a000050a85f8d3065bdb217fa5efeb248c20f782"), looks := false }, kinds := [], alts := [], laidByText := true, laidKinds := [.data, .pinned], laidTests := true, laidLooks := .later }
def TreeUpUptoCardSaid : Prop := Claim7.holds Tryd.pinned (.plain (OpenSpec.upto treeUpSpec)) treeUpUptoCard

/-- THE SECOND FORM's CARD OF 'beaconrykeep.TreeSet'. -/
def treeSetUptoCard : Claim7 := { stood := { row := treeSetUptoRow, standIns := [], harness := (true, "26cbeac0c10e737558e47737a000050a85f8d3065bdb217fa5efeb248c20f782"), looks := false }, kinds := [], alts := [], laidByText := true, laidKinds := [.data, .pinned], laidTests := true, laidLooks := .later }
def TreeSetUptoCardSaid : Prop := Claim7.holds Tryd.pinned (.plain (OpenSpec.upto treeSetSpec)) treeSetUptoCard

/-- THE SECOND FORM's CARD OF 'beaconrykeep.TreeBack'. -/
def treeBackUptoCard : Claim7 := { stood := { row := treeBackUptoRow, standIns := [], harness := (true, "26cbeac0c10e737558e47737a000050a85f8d3065bdb217fa5efeb248c20f782"), looks := false }, kinds := [], alts := [], laidByText := true, laidKinds := [.data, .pinned], laidTests := true, laidLooks := .later }
def TreeBackUptoCardSaid : Prop := Claim7.holds Tryd.pinned (.plain (OpenSpec.upto treeBackSpec)) treeBackUptoCard

/-- THE SECOND FORM's CARD OF 'beaconrykeep.TreeMany'. -/
def treeManyUptoCard : Claim7 := { stood := { row := treeManyUptoRow, standIns := [], harness := (true, "26cbeac0c10e737558e47737a000050a85f8d3065bdb217fa5efeb248c20f782"), looks := false }, kinds := [], alts := [], laidByText := true, laidKinds := [.data, .pinned], laidTests := true, laidLooks := .later }
def TreeManyUptoCardSaid : Prop := Claim7.holds Tryd.pinned (.plain (OpenSpec.upto treeManySpec)) treeManyUptoCard
end Rows
end Go.Proofs.YtfkfljiinnlilaaDoor
