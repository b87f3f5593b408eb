/-
  DERIVED. GIVEN WITH THE SEED: THE CARDS: each row of YtiibccoaopjoiaaDoorRows.lean that lists a variable, with what it lists TIED to the program's text (the seventh form; the later family's looks); each row that meets fmt, with fmt's text TOLD by the authors' own Lean function (tested against real Go, not proved from fmt's source: count such statements apart). THE CARD IS WHAT COUNTS. Prove the row's statement (the work); the ties are given (YtiibccoaopjoiaaDoorTie.lean); close each card by the builder's one call (the guide's Derived/Test/ToyasCard.lean, 'card_holds'). Laid BY PROGRAM, IN A SANDBOX (cutbox-door.mjs). By AI agents, Wed Nov 11 2026. No macro, syntax, notation, axiom, sorry.
-/
import Derived.Test.YtiibccoaopjoiaaDoorRows
import GoSem.ClaimSeven
namespace Go.Proofs.YtiibccoaopjoiaaDoor
namespace Rows

/-- THE TIED CARD OF 'stoplinelaw05.SiteBack'. -/
def siteBackCard : Claim7 := { stood := { row := siteBackRow, standIns := [], harness := (true, "7b6b20f5b8d5b0ef34afb06b36886004030d4d6b6bf663d462ca3c76e3292aa3"), looks := false }, kinds := [], alts := [], laidByText := true, laidKinds := [.data], laidTests := true, laidLooks := .later }
def SiteBackCardSaid : Prop := Claim7.holds Tryd.pinned (.plain (OpenSpec.ofChange siteBackSpec)) siteBackCard

/-- THE TIED CARD OF 'stoplinelaw26.SplitWishes'. -/
def splitWishesCard : Claim7 := { stood := { row := splitWishesRow, standIns := [], harness := (true, "7b6b20f5b8d5b0ef34afb06b36886004030d4d6b6bf663d462ca3c76e3292aa3"), looks := false }, kinds := [], alts := [], laidByText := true, laidKinds := [.data], laidTests := true, laidLooks := .later }
def SplitWishesCardSaid : Prop := Claim7.holds Tryd.pinned (.plain (OpenSpec.ofChange splitWishesSpec)) splitWishesCard

/-- THE TIED CARD OF 'stoplinelaw05.SiteBytes'. -/
def siteBytesCard : Claim7 := { stood := { row := siteBytesRow, standIns := [], harness := (true, "7b6b20f5b8d5b0ef34afb06b36886004030d4d6b6bf663d462ca3c76e3292aa3"), looks := false }, kinds := [], alts := [], laidByText := true, laidKinds := [.data], laidTests := true, laidLooks := .later }
def SiteBytesCardSaid : Prop := Claim7.holds Tryd.pinned (.plain (OpenSpec.ofChange siteBytesSpec)) siteBytesCard

/-- THE TIED CARD OF 'stoplinelaw05.SitePlans'. -/
def sitePlansCard : Claim7 := { stood := { row := sitePlansRow, standIns := [], harness := (true, "7b6b20f5b8d5b0ef34afb06b36886004030d4d6b6bf663d462ca3c76e3292aa3"), looks := false }, kinds := [], alts := [], laidByText := true, laidKinds := [.data], laidTests := true, laidLooks := .later }
def SitePlansCardSaid : Prop := Claim7.holds Tryd.pinned (.plain (OpenSpec.ofChange sitePlansSpec)) sitePlansCard

/-- THE TIED CARD OF 'stoplinelaw26.SplitNames'. -/
def splitNamesCard : Claim7 := { stood := { row := splitNamesRow, standIns := [], harness := (true, "7b6b20f5b8d5b0ef34afb06b36886004030d4d6b6bf663d462ca3c76e3292aa3"), looks := false }, kinds := [], alts := [], laidByText := true, laidKinds := [.data], laidTests := true, laidLooks := .later }
def SplitNamesCardSaid : Prop := Claim7.holds Tryd.pinned (.plain (OpenSpec.ofChange splitNamesSpec)) splitNamesCard

/-- THE TIED CARD OF 'stoplinelaw28.WedGoes'. -/
def wedGoesCard : Claim7 := { stood := { row := wedGoesRow, standIns := [], harness := (true, "7b6b20f5b8d5b0ef34afb06b36886004030d4d6b6bf663d462ca3c76e3292aa3"), looks := false }, kinds := [], alts := [], laidByText := true, laidKinds := [.data], laidTests := true, laidLooks := .later }
def WedGoesCardSaid : Prop := Claim7.holds Tryd.pinned (.plain (OpenSpec.ofChange wedGoesSpec)) wedGoesCard

/-- THE TIED CARD OF 'stoplinelaw05.SiteApart'. -/
def siteApartCard : Claim7 := { stood := { row := siteApartRow, standIns := [], harness := (true, "7b6b20f5b8d5b0ef34afb06b36886004030d4d6b6bf663d462ca3c76e3292aa3"), looks := false }, kinds := [], alts := [], laidByText := true, laidKinds := [.data], laidTests := true, laidLooks := .later }
def SiteApartCardSaid : Prop := Claim7.holds Tryd.pinned (.plain (OpenSpec.ofChange siteApartSpec)) siteApartCard

/-- THE TIED CARD OF 'stoplinelaw05.SiteClear'. -/
def siteClearCard : Claim7 := { stood := { row := siteClearRow, standIns := [], harness := (true, "7b6b20f5b8d5b0ef34afb06b36886004030d4d6b6bf663d462ca3c76e3292aa3"), looks := false }, kinds := [], alts := [], laidByText := true, laidKinds := [.data], laidTests := true, laidLooks := .later }
def SiteClearCardSaid : Prop := Claim7.holds Tryd.pinned (.plain (OpenSpec.ofChange siteClearSpec)) siteClearCard

/-- THE TIED CARD OF 'stoplinelaw28.WedNames'. -/
def wedNamesCard : Claim7 := { stood := { row := wedNamesRow, standIns := [], harness := (true, "7b6b20f5b8d5b0ef34afb06b36886004030d4d6b6bf663d462ca3c76e3292aa3"), looks := false }, kinds := [], alts := [], laidByText := true, laidKinds := [.data], laidTests := true, laidLooks := .later }
def WedNamesCardSaid : Prop := Claim7.holds Tryd.pinned (.plain (OpenSpec.ofChange wedNamesSpec)) wedNamesCard

/-- THE TIED CARD OF 'stoplinelaw28.WedParts'. -/
def wedPartsCard : Claim7 := { stood := { row := wedPartsRow, standIns := [], harness := (true, "7b6b20f5b8d5b0ef34afb06b36886004030d4d6b6bf663d462ca3c76e3292aa3"), looks := false }, kinds := [], alts := [], laidByText := true, laidKinds := [.data], laidTests := true, laidLooks := .later }
def WedPartsCardSaid : Prop := Claim7.holds Tryd.pinned (.plain (OpenSpec.ofChange wedPartsSpec)) wedPartsCard

/-- THE TIED CARD OF 'stoplinelaw05.SiteNames'. -/
def siteNamesCard : Claim7 := { stood := { row := siteNamesRow, standIns := [], harness := (true, "7b6b20f5b8d5b0ef34afb06b36886004030d4d6b6bf663d462ca3c76e3292aa3"), looks := false }, kinds := [], alts := [], laidByText := true, laidKinds := [.data], laidTests := true, laidLooks := .later }
def SiteNamesCardSaid : Prop := Claim7.holds Tryd.pinned (.plain (OpenSpec.ofChange siteNamesSpec)) siteNamesCard

/-- THE TIED CARD OF 'stoplinelaw06.NetBack'. -/
def netBackCard : Claim7 := { stood := { row := netBackRow, standIns := [], harness := (true, "7b6b20f5b8d5b0ef34afb06b36886004030d4d6b6bf663d462ca3c76e3292aa3"), looks := false }, kinds := [], alts := [], laidByText := true, laidKinds := [.data], laidTests := true, laidLooks := .later }
def NetBackCardSaid : Prop := Claim7.holds Tryd.pinned (.plain (OpenSpec.ofChange netBackSpec)) netBackCard

/-- THE TIED CARD OF 'stoplinelaw06.NetCycles'. -/
def netCyclesCard : Claim7 := { stood := { row := netCyclesRow, standIns := [], harness := (true, "7b6b20f5b8d5b0ef34afb06b36886004030d4d6b6bf663d462ca3c76e3292aa3"), looks := false }, kinds := [], alts := [], laidByText := true, laidKinds := [.data], laidTests := true, laidLooks := .later }
def NetCyclesCardSaid : Prop := Claim7.holds Tryd.pinned (.plain (OpenSpec.ofChange netCyclesSpec)) netCyclesCard

/-- THE TIED CARD OF 'stoplinelaw06.NetParts'. -/
def netPartsCard : Claim7 := { stood := { row := netPartsRow, standIns := [], harness := (true, "7b6b20f5b8d5b0ef34afb06b36886004030d4d6b6bf663d462ca3c76e3292aa3"), looks := false }, kinds := [], alts := [], laidByText := true, laidKinds := [.data], laidTests := true, laidLooks := .later }
def NetPartsCardSaid : Prop := Claim7.holds Tryd.pinned (.plain (OpenSpec.ofChange netPartsSpec)) netPartsCard

/-- THE TIED CARD OF 'stoplinelaw06.NetNames'. -/
def netNamesCard : Claim7 := { stood := { row := netNamesRow, standIns := [], harness := (true, "7b6b20f5b8d5b0ef34afb06b36886004030d4d6b6bf663d462ca3c76e3292aa3"), looks := false }, kinds := [], alts := [], laidByText := true, laidKinds := [.data], laidTests := true, laidLooks := .later }
def NetNamesCardSaid : Prop := Claim7.holds Tryd.pinned (.plain (OpenSpec.ofChange netNamesSpec)) netNamesCard

/-- THE SECOND FORM's CARD OF 'stoplinelaw05.SiteBack'. -/
def siteBackUptoCard : Claim7 := { stood := { row := siteBackUptoRow, standIns := [], harness := (true, "7b6b20f5b8d5b0ef34afb06b36886004030d4d6b6bf663d462ca3c76e3292aa3"), looks := false }, kinds := [], alts := [], laidByText := true, laidKinds := [.data], laidTests := true, laidLooks := .later }
def SiteBackUptoCardSaid : Prop := Claim7.holds Tryd.pinned (.plain (OpenSpec.upto siteBackSpec)) siteBackUptoCard

/-- THE SECOND FORM's CARD OF 'stoplinelaw26.SplitWishes'. -/
def splitWishesUptoCard : Claim7 := { stood := { row := splitWishesUptoRow, standIns := [], harness := (true, "7b6b20f5b8d5b0ef34afb06b36886004030d4d6b6bf663d462ca3c76e3292aa3"), looks := false }, kinds := [], alts := [], laidByText := true, laidKinds := [.data], laidTests := true, laidLooks := .later }
def SplitWishesUptoCardSaid : Prop := Claim7.holds Tryd.pinned (.plain (OpenSpec.upto splitWishesSpec)) splitWishesUptoCard

/-- THE SECOND FORM's CARD OF 'stoplinelaw05.SiteBytes'. -/
def siteBytesUptoCard : Claim7 := { stood := { row := siteBytesUptoRow, standIns := [], harness := (true, "7b6b20f5b8d5b0ef34afb06b36886004030d4d6b6bf663d462ca3c76e3292aa3"), looks := false }, kinds := [], alts := [], laidByText := true, laidKinds := [.data], laidTests := true, laidLooks := .later }
def SiteBytesUptoCardSaid : Prop := Claim7.holds Tryd.pinned (.plain (OpenSpec.upto siteBytesSpec)) siteBytesUptoCard

/-- THE SECOND FORM's CARD OF 'stoplinelaw05.SitePlans'. -/
def sitePlansUptoCard : Claim7 := { stood := { row := sitePlansUptoRow, standIns := [], harness := (true, "7b6b20f5b8d5b0ef34afb06b36886004030d4d6b6bf663d462ca3c76e3292aa3"), looks := false }, kinds := [], alts := [], laidByText := true, laidKinds := [.data], laidTests := true, laidLooks := .later }
def SitePlansUptoCardSaid : Prop := Claim7.holds Tryd.pinned (.plain (OpenSpec.upto sitePlansSpec)) sitePlansUptoCard

/-- THE SECOND FORM's CARD OF 'stoplinelaw26.SplitNames'. -/
def splitNamesUptoCard : Claim7 := { stood := { row := splitNamesUptoRow, standIns := [], harness := (true, "7b6b20f5b8d5b0ef34afb06b36886004030d4d6b6bf663d462ca3c76e3292aa3"), looks := false }, kinds := [], alts := [], laidByText := true, laidKinds := [.data], laidTests := true, laidLooks := .later }
def SplitNamesUptoCardSaid : Prop := Claim7.holds Tryd.pinned (.plain (OpenSpec.upto splitNamesSpec)) splitNamesUptoCard

/-- THE SECOND FORM's CARD OF 'stoplinelaw28.WedGoes'. -/
def wedGoesUptoCard : Claim7 := { stood := { row := wedGoesUptoRow, standIns := [], harness := (true, "7b6b20f5b8d5b0ef34afb06b36886004030d4d6b6bf663d462ca3c76e3292aa3"), looks := false }, kinds := [], alts := [], laidByText := true, laidKinds := [.data], laidTests := true, laidLooks := .later }
def WedGoesUptoCardSaid : Prop := Claim7.holds Tryd.pinned (.plain (OpenSpec.upto wedGoesSpec)) wedGoesUptoCard

/-- THE SECOND FORM's CARD OF 'stoplinelaw05.SiteApart'. -/
def siteApartUptoCard : Claim7 := { stood := { row := siteApartUptoRow, standIns := [], harness := (true, "7b6b20f5b8d5b0ef34afb06b36886004030d4d6b6bf663d462ca3c76e3292aa3"), looks := false }, kinds := [], alts := [], laidByText := true, laidKinds := [.data], laidTests := true, laidLooks := .later }
def SiteApartUptoCardSaid : Prop := Claim7.holds Tryd.pinned (.plain (OpenSpec.upto siteApartSpec)) siteApartUptoCard

/-- THE SECOND FORM's CARD OF 'stoplinelaw05.SiteClear'. -/
def siteClearUptoCard : Claim7 := { stood := { row := siteClearUptoRow, standIns := [], harness := (true, "7b6b20f5b8d5b0ef34afb06b36886004030d4d6b6bf663d462ca3c76e3292aa3"), looks := false }, kinds := [], alts := [], laidByText := true, laidKinds := [.data], laidTests := true, laidLooks := .later }
def SiteClearUptoCardSaid : Prop := Claim7.holds Tryd.pinned (.plain (OpenSpec.upto siteClearSpec)) siteClearUptoCard

/-- THE SECOND FORM's CARD OF 'stoplinelaw28.WedNames'. -/
def wedNamesUptoCard : Claim7 := { stood := { row := wedNamesUptoRow, standIns := [], harness := (true, "7b6b20f5b8d5b0ef34afb06b36886004030d4d6b6bf663d462ca3c76e3292aa3"), looks := false }, kinds := [], alts := [], laidByText := true, laidKinds := [.data], laidTests := true, laidLooks := .later }
def WedNamesUptoCardSaid : Prop := Claim7.holds Tryd.pinned (.plain (OpenSpec.upto wedNamesSpec)) wedNamesUptoCard

/-- THE SECOND FORM's CARD OF 'stoplinelaw28.WedParts'. -/
def wedPartsUptoCard : Claim7 := { stood := { row := wedPartsUptoRow, standIns := [], harness := (true, "7b6b20f5b8d5b0ef34afb06b36886004030d4d6b6bf663d462ca3c76e3292aa3"), looks := false }, kinds := [], alts := [], laidByText := true, laidKinds := [.data], laidTests := true, laidLooks := .later }
def WedPartsUptoCardSaid : Prop := Claim7.holds Tryd.pinned (.plain (OpenSpec.upto wedPartsSpec)) wedPartsUptoCard

/-- THE SECOND FORM's CARD OF 'stoplinelaw05.SiteNames'. -/
def siteNamesUptoCard : Claim7 := { stood := { row := siteNamesUptoRow, standIns := [], harness := (true, "7b6b20f5b8d5b0ef34afb06b36886004030d4d6b6bf663d462ca3c76e3292aa3"), looks := false }, kinds := [], alts := [], laidByText := true, laidKinds := [.data], laidTests := true, laidLooks := .later }
def SiteNamesUptoCardSaid : Prop := Claim7.holds Tryd.pinned (.plain (OpenSpec.upto siteNamesSpec)) siteNamesUptoCard

/-- THE SECOND FORM's CARD OF 'stoplinelaw06.NetBack'. -/
def netBackUptoCard : Claim7 := { stood := { row := netBackUptoRow, standIns := [], harness := (true, "7b6b20f5b8d5b0ef34afb06b36886004030d4d6b6bf663d462ca3c76e3292aa3"), looks := false }, kinds := [], alts := [], laidByText := true, laidKinds := [.data], laidTests := true, laidLooks := .later }
def NetBackUptoCardSaid : Prop := Claim7.holds Tryd.pinned (.plain (OpenSpec.upto netBackSpec)) netBackUptoCard

/-- THE SECOND FORM's CARD OF 'stoplinelaw06.NetCycles'. -/
def netCyclesUptoCard : Claim7 := { stood := { row := netCyclesUptoRow, standIns := [], harness := (true, "7b6b20f5b8d5b0ef34afb06b36886004030d4d6b6bf663d462ca3c76e3292aa3"), looks := false }, kinds := [], alts := [], laidByText := true, laidKinds := [.data], laidTests := true, laidLooks := .later }
def NetCyclesUptoCardSaid : Prop := Claim7.holds Tryd.pinned (.plain (OpenSpec.upto netCyclesSpec)) netCyclesUptoCard

/-- THE SECOND FORM's CARD OF 'stoplinelaw06.NetParts'. -/
def netPartsUptoCard : Claim7 := { stood := { row := netPartsUptoRow, standIns := [], harness := (true, "7b6b20f5b8d5b0ef34afb06b36886004030d4d6b6bf663d462ca3c76e3292aa3"), looks := false }, kinds := [], alts := [], laidByText := true, laidKinds := [.data], laidTests := true, laidLooks := .later }
def NetPartsUptoCardSaid : Prop := Claim7.holds Tryd.pinned (.plain (OpenSpec.upto netPartsSpec)) netPartsUptoCard

/-- THE SECOND FORM's CARD OF 'stoplinelaw06.NetNames'. -/
def netNamesUptoCard : Claim7 := { stood := { row := netNamesUptoRow, standIns := [], harness := (true, "7b6b20f5b8d5b0ef34afb06b36886004030d4d6b6bf663d462ca3c76e3292aa3"), looks := false }, kinds := [], alts := [], laidByText := true, laidKinds := [.data], laidTests := true, laidLooks := .later }
def NetNamesUptoCardSaid : Prop := Claim7.holds Tryd.pinned (.plain (OpenSpec.upto netNamesSpec)) netNamesUptoCard
end Rows
end Go.Proofs.YtiibccoaopjoiaaDoor
