/-
  DERIVED. GIVEN WITH THE SEED: THE CARDS: each row of YtdeionjkcmpnpaaDoorRows.lean that lists a variable, with what it lists TIED to the program's text (the seventh form; the later family's looks); each row that meets fmt, with fmt's text TOLD by the authors' own Lean function (tested against real Go, not proved from fmt's source: count such statements apart). THE CARD IS WHAT COUNTS. Prove the row's statement (the work); the ties are given (YtdeionjkcmpnpaaDoorTie.lean); close each card by the builder's one call (the guide's Derived/Test/ToyasCard.lean, 'card_holds'). Laid BY PROGRAM, IN A SANDBOX (cutbox-door.mjs). By AI agents, Wed Nov 11 2026. No macro, syntax, notation, axiom, sorry.
-/
import Derived.Test.YtdeionjkcmpnpaaDoorRows
import GoSem.ClaimSeven
namespace Go.Proofs.YtdeionjkcmpnpaaDoor
namespace Rows

/-- THE TIED CARD OF 'stoplinelaw26.SplitWishes'. -/
def splitWishesCard : Claim7 := { stood := { row := splitWishesRow, standIns := [], harness := (true, "4625bc082a7aa8a9608acb8c0e7b2d45b5c7c56855bb37e4dcd59e60d0b845b8"), looks := false }, kinds := [], alts := [], laidByText := true, laidKinds := [.data], laidTests := true, laidLooks := .later }
def SplitWishesCardSaid : Prop := Claim7.holds Tryd.pinned (.plain (OpenSpec.ofChange splitWishesSpec)) splitWishesCard

/-- THE TIED CARD OF 'stoplinelaw05.SiteBytes'. -/
def siteBytesCard : Claim7 := { stood := { row := siteBytesRow, standIns := [], harness := (true, "4625bc082a7aa8a9608acb8c0e7b2d45b5c7c56855bb37e4dcd59e60d0b845b8"), looks := false }, kinds := [], alts := [], laidByText := true, laidKinds := [.data], laidTests := true, laidLooks := .later }
def SiteBytesCardSaid : Prop := Claim7.holds Tryd.pinned (.plain (OpenSpec.ofChange siteBytesSpec)) siteBytesCard

/-- THE TIED CARD OF 'stoplinelaw28.WedGoes'. -/
def wedGoesCard : Claim7 := { stood := { row := wedGoesRow, standIns := [], harness := (true, "4625bc082a7aa8a9608acb8c0e7b2d45b5c7c56855bb37e4dcd59e60d0b845b8"), looks := false }, kinds := [], alts := [], laidByText := true, laidKinds := [.data], laidTests := true, laidLooks := .later }
def WedGoesCardSaid : Prop := Claim7.holds Tryd.pinned (.plain (OpenSpec.ofChange wedGoesSpec)) wedGoesCard

/-- THE TIED CARD OF 'stoplinelaw06.NetBack'. -/
def netBackCard : Claim7 := { stood := { row := netBackRow, standIns := [], harness := (true, "4625bc082a7aa8a9608acb8c0e7b2d45b5c7c56855bb37e4dcd59e60d0b845b8"), looks := false }, kinds := [], alts := [], laidByText := true, laidKinds := [.data], laidTests := true, laidLooks := .later }
def NetBackCardSaid : Prop := Claim7.holds Tryd.pinned (.plain (OpenSpec.ofChange netBackSpec)) netBackCard

/-- THE TIED CARD OF 'stoplinelaw06.NetCycles'. -/
def netCyclesCard : Claim7 := { stood := { row := netCyclesRow, standIns := [], harness := (true, "4625bc082a7aa8a9608acb8c0e7b2d45b5c7c56855bb37e4dcd59e60d0b845b8"), looks := false }, kinds := [], alts := [], laidByText := true, laidKinds := [.data], laidTests := true, laidLooks := .later }
def NetCyclesCardSaid : Prop := Claim7.holds Tryd.pinned (.plain (OpenSpec.ofChange netCyclesSpec)) netCyclesCard

/-- THE TIED CARD OF 'stoplinelaw06.NetParts'. -/
def netPartsCard : Claim7 := { stood := { row := netPartsRow, standIns := [], harness := (true, "4625bc082a7aa8a9608acb8c0e7b2d45b5c7c56855bb37e4dcd59e60d0b845b8"), looks := false }, kinds := [], alts := [], laidByText := true, laidKinds := [.data], laidTests := true, laidLooks := .later }
def NetPartsCardSaid : Prop := Claim7.holds Tryd.pinned (.plain (OpenSpec.ofChange netPartsSpec)) netPartsCard

/-- THE TIED CARD OF 'stoplinelaw06.NetNames'. -/
def netNamesCard : Claim7 := { stood := { row := netNamesRow, standIns := [], harness := (true, "4625bc082a7aa8a9608acb8c0e7b2d45b5c7c56855bb37e4dcd59e60d0b845b8"), looks := false }, kinds := [], alts := [], laidByText := true, laidKinds := [.data], laidTests := true, laidLooks := .later }
def NetNamesCardSaid : Prop := Claim7.holds Tryd.pinned (.plain (OpenSpec.ofChange netNamesSpec)) netNamesCard

/-- THE SECOND FORM's CARD OF 'stoplinelaw26.SplitWishes'. -/
def splitWishesUptoCard : Claim7 := { stood := { row := splitWishesUptoRow, standIns := [], harness := (true, "4625bc082a7aa8a9608acb8c0e7b2d45b5c7c56855bb37e4dcd59e60d0b845b8"), looks := false }, kinds := [], alts := [], laidByText := true, laidKinds := [.data], laidTests := true, laidLooks := .later }
def SplitWishesUptoCardSaid : Prop := Claim7.holds Tryd.pinned (.plain (OpenSpec.upto splitWishesSpec)) splitWishesUptoCard

/-- THE SECOND FORM's CARD OF 'stoplinelaw05.SiteBytes'. -/
def siteBytesUptoCard : Claim7 := { stood := { row := siteBytesUptoRow, standIns := [], harness := (true, "4625bc082a7aa8a9608acb8c0e7b2d45b5c7c56855bb37e4dcd59e60d0b845b8"), looks := false }, kinds := [], alts := [], laidByText := true, laidKinds := [.data], laidTests := true, laidLooks := .later }
def SiteBytesUptoCardSaid : Prop := Claim7.holds Tryd.pinned (.plain (OpenSpec.upto siteBytesSpec)) siteBytesUptoCard

/-- THE SECOND FORM's CARD OF 'stoplinelaw28.WedGoes'. -/
def wedGoesUptoCard : Claim7 := { stood := { row := wedGoesUptoRow, standIns := [], harness := (true, "4625bc082a7aa8a9608acb8c0e7b2d45b5c7c56855bb37e4dcd59e60d0b845b8"), looks := false }, kinds := [], alts := [], laidByText := true, laidKinds := [.data], laidTests := true, laidLooks := .later }
def WedGoesUptoCardSaid : Prop := Claim7.holds Tryd.pinned (.plain (OpenSpec.upto wedGoesSpec)) wedGoesUptoCard

/-- THE SECOND FORM's CARD OF 'stoplinelaw06.NetBack'. -/
def netBackUptoCard : Claim7 := { stood := { row := netBackUptoRow, standIns := [], harness := (true, "4625bc082a7aa8a9608acb8c0e7b2d45b5c7c56855bb37e4dcd59e60d0b845b8"), looks := false }, kinds := [], alts := [], laidByText := true, laidKinds := [.data], laidTests := true, laidLooks := .later }
def NetBackUptoCardSaid : Prop := Claim7.holds Tryd.pinned (.plain (OpenSpec.upto netBackSpec)) netBackUptoCard

/-- THE SECOND FORM's CARD OF 'stoplinelaw06.NetCycles'. -/
def netCyclesUptoCard : Claim7 := { stood := { row := netCyclesUptoRow, standIns := [], harness := (true, "4625bc082a7aa8a9608acb8c0e7b2d45b5c7c56855bb37e4dcd59e60d0b845b8"), looks := false }, kinds := [], alts := [], laidByText := true, laidKinds := [.data], laidTests := true, laidLooks := .later }
def NetCyclesUptoCardSaid : Prop := Claim7.holds Tryd.pinned (.plain (OpenSpec.upto netCyclesSpec)) netCyclesUptoCard

/-- THE SECOND FORM's CARD OF 'stoplinelaw06.NetParts'. -/
def netPartsUptoCard : Claim7 := { stood := { row := netPartsUptoRow, standIns := [], harness := (true, "4625bc082a7aa8a9608acb8c0e7b2d45b5c7c56855bb37e4dcd59e60d0b845b8"), looks := false }, kinds := [], alts := [], laidByText := true, laidKinds := [.data], laidTests := true, laidLooks := .later }
def NetPartsUptoCardSaid : Prop := Claim7.holds Tryd.pinned (.plain (OpenSpec.upto netPartsSpec)) netPartsUptoCard

/-- THE SECOND FORM's CARD OF 'stoplinelaw06.NetNames'. -/
def netNamesUptoCard : Claim7 := { stood := { row := netNamesUptoRow, standIns := [], harness := (true, "4625bc082a7aa8a9608acb8c0e7b2d45b5c7c56855bb37e4dcd59e60d0b845b8"), looks := false }, kinds := [], alts := [], laidByText := true, laidKinds := [.data], laidTests := true, laidLooks := .later }
def NetNamesUptoCardSaid : Prop := Claim7.holds Tryd.pinned (.plain (OpenSpec.upto netNamesSpec)) netNamesUptoCard
end Rows
end Go.Proofs.YtdeionjkcmpnpaaDoor
