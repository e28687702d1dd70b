/-
  DERIVED. GIVEN WITH THE SEED: THE CARDS: each row of YtfdgjbanajodfaaDoorRows.lean that lists a variable, with what it lists TIED to the program's text (the seventh form; the later family's looks); each row that meets fmt, with fmt's text TOLD by the authors' own Lean function (tested against real Go, not proved from fmt's source: count such statements apart). THE CARD IS WHAT COUNTS. Prove the row's statement (the work); the ties are given (YtfdgjbanajodfaaDoorTie.lean); close each card by the builder's one call (the guide's Derived/Test/ToyasCard.lean, 'card_holds'). Laid BY PROGRAM, IN A SANDBOX (cutbox-door.mjs). By AI agents, Wed Nov 11 2026. No macro, syntax, notation, axiom, sorry.
-/
import Derived.Test.YtfdgjbanajodfaaDoorRows
import GoSem.ClaimSeven
namespace Go.Proofs.YtfdgjbanajodfaaDoor
namespace Rows

/-- THE TIED CARD OF 'beaconrykeep.WatchOnce'. -/
def watchOnceCard : Claim7 := { stood := { row := watchOnceRow, standIns := [], harness := (true, "752d6fce3fcda7412fb07ffda60c945c395a0c908def440a2c5807e8d499db57"), looks := false }, kinds := [], alts := [], laidByText := true, laidKinds := [.data, .pinned], laidTests := true, laidLooks := .later }
def WatchOnceCardSaid : Prop := Claim7.holds Tryd.pinned (.plain (OpenSpec.ofChange watchOnceSpec)) watchOnceCard

/-- THE TIED CARD OF 'beaconrykeep.WatchFires'. -/
def watchFiresCard : Claim7 := { stood := { row := watchFiresRow, standIns := [], harness := (true, "752d6fce3fcda7412fb07ffda60c945c395a0c908def440a2c5807e8d499db57"), looks := false }, kinds := [], alts := [], laidByText := true, laidKinds := [.data, .pinned], laidTests := true, laidLooks := .later }
def WatchFiresCardSaid : Prop := Claim7.holds Tryd.pinned (.plain (OpenSpec.ofChange watchFiresSpec)) watchFiresCard

/-- THE TIED CARD OF 'beaconrykeep.WatchTold'. -/
def watchToldCard : Claim7 := { stood := { row := watchToldRow, standIns := [], harness := (true, "752d6fce3fcda7412fb07ffda60c945c395a0c908def440a2c5807e8d499db57"), looks := false }, kinds := [], alts := [], laidByText := true, laidKinds := [.data, .pinned], laidTests := true, laidLooks := .later }
def WatchToldCardSaid : Prop := Claim7.holds Tryd.pinned (.plain (OpenSpec.ofChange watchToldSpec)) watchToldCard

/-- THE TIED CARD OF 'beaconrytop.TopOwn'. -/
def topOwnCard : Claim7 := { stood := { row := topOwnRow, standIns := [], harness := (true, "752d6fce3fcda7412fb07ffda60c945c395a0c908def440a2c5807e8d499db57"), looks := false }, kinds := [], alts := [], laidByText := true, laidKinds := [.data, .pinned], laidTests := true, laidLooks := .later }
def TopOwnCardSaid : Prop := Claim7.holds Tryd.pinned (.plain (OpenSpec.ofChange topOwnSpec)) topOwnCard

/-- THE TIED CARD OF 'beaconrytop.TopSync'. -/
def topSyncCard : Claim7 := { stood := { row := topSyncRow, standIns := [], harness := (true, "752d6fce3fcda7412fb07ffda60c945c395a0c908def440a2c5807e8d499db57"), looks := false }, kinds := [], alts := [], laidByText := true, laidKinds := [.data, .pinned], laidTests := true, laidLooks := .later }
def TopSyncCardSaid : Prop := Claim7.holds Tryd.pinned (.plain (OpenSpec.ofChange topSyncSpec)) topSyncCard

/-- THE TIED CARD OF 'beaconrytop.TopSame'. -/
def topSameCard : Claim7 := { stood := { row := topSameRow, standIns := [], harness := (true, "752d6fce3fcda7412fb07ffda60c945c395a0c908def440a2c5807e8d499db57"), looks := false }, kinds := [], alts := [], laidByText := true, laidKinds := [.data, .pinned], laidTests := true, laidLooks := .later }
def TopSameCardSaid : Prop := Claim7.holds Tryd.pinned (.plain (OpenSpec.ofChange topSameSpec)) topSameCard

/-- THE SECOND FORM's CARD OF 'beaconrykeep.WatchOnce'. -/
def watchOnceUptoCard : Claim7 := { stood := { row := watchOnceUptoRow, standIns := [], harness := (true, "752d6fce3fcda7412fb07ffda60c945c395a0c908def440a2c5807e8d499db57"), looks := false }, kinds := [], alts := [], laidByText := true, laidKinds := [.data, .pinned], laidTests := true, laidLooks := .later }
def WatchOnceUptoCardSaid : Prop := Claim7.holds Tryd.pinned (.plain (OpenSpec.upto watchOnceSpec)) watchOnceUptoCard

/-- THE SECOND FORM's CARD OF 'beaconrykeep.WatchFires'. -/
def watchFiresUptoCard : Claim7 := { stood := { row := watchFiresUptoRow, standIns := [], harness := (true, "752d6fce3fcda7412fb07ffda60c945c395a0c908def440a2c5807e8d499db57"), looks := false }, kinds := [], alts := [], laidByText := true, laidKinds := [.data, .pinned], laidTests := true, laidLooks := .later }
def WatchFiresUptoCardSaid : Prop := Claim7.holds Tryd.pinned (.plain (OpenSpec.upto watchFiresSpec)) watchFiresUptoCard

/-- THE SECOND FORM's CARD OF 'beaconrykeep.WatchTold'. -/
def watchToldUptoCard : Claim7 := { stood := { row := watchToldUptoRow, standIns := [], harness := (true, "752d6fce3fcda7412fb07ffda60c945c395a0c908def440a2c5807e8d499db57"), looks := false }, kinds := [], alts := [], laidByText := true, laidKinds := [.data, .pinned], laidTests := true, laidLooks := .later }
def WatchToldUptoCardSaid : Prop := Claim7.holds Tryd.pinned (.plain (OpenSpec.upto watchToldSpec)) watchToldUptoCard

/-- THE SECOND FORM's CARD OF 'beaconrytop.TopOwn'. -/
def topOwnUptoCard : Claim7 := { stood := { row := topOwnUptoRow, standIns := [], harness := (true, "752d6fce3fcda7412fb07ffda60c945c395a0c908def440a2c5807e8d499db57"), looks := false }, kinds := [], alts := [], laidByText := true, laidKinds := [.data, .pinned], laidTests := true, laidLooks := .later }
def TopOwnUptoCardSaid : Prop := Claim7.holds Tryd.pinned (.plain (OpenSpec.upto topOwnSpec)) topOwnUptoCard

/-- THE SECOND FORM's CARD OF 'beaconrytop.TopSync'. -/
def topSyncUptoCard : Claim7 := { stood := { row := topSyncUptoRow, standIns := [], harness := (true, "752d6fce3fcda7412fb07ffda60c945c395a0c908def440a2c5807e8d499db57"), looks := false }, kinds := [], alts := [], laidByText := true, laidKinds := [.data, .pinned], laidTests := true, laidLooks := .later }
def TopSyncUptoCardSaid : Prop := Claim7.holds Tryd.pinned (.plain (OpenSpec.upto topSyncSpec)) topSyncUptoCard

/-- THE SECOND FORM's CARD OF 'beaconrytop.TopSame'. -/
def topSameUptoCard : Claim7 := { stood := { row := topSameUptoRow, standIns := [], harness := (true, "752d6fce3fcda7412fb07ffda60c945c395a0c908def440a2c5807e8d499db57"), looks := false }, kinds := [], alts := [], laidByText := true, laidKinds := [.data, .pinned], laidTests := true, laidLooks := .later }
def TopSameUptoCardSaid : Prop := Claim7.holds Tryd.pinned (.plain (OpenSpec.upto topSameSpec)) topSameUptoCard
end Rows
end Go.Proofs.YtfdgjbanajodfaaDoor
