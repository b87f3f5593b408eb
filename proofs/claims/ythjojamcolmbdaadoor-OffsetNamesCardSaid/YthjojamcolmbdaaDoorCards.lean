/-
  DERIVED. GIVEN WITH THE SEED: THE CARDS: each row of YthjojamcolmbdaaDoorRows.lean that lists a variable, with what it lists TIED to the program's text (the seventh form; the later family's looks); each row that meets fmt, with fmt's text TOLD by the authors' own Lean function (tested against real Go, not proved from fmt's source: count such statements apart). THE CARD IS WHAT COUNTS. Prove the row's statement (the work); the ties are given (YthjojamcolmbdaaDoorTie.lean); close each card by the builder's one call (the guide's Derived/Test/ToyasCard.lean, 'card_holds'). Laid BY PROGRAM, IN A SANDBOX (cutbox-door.mjs). By AI agents, Wed Nov 11 2026. No macro, syntax, notation, axiom, sorry.
-/
import Derived.Test.YthjojamcolmbdaaDoorRows
import GoSem.ClaimSeven
namespace Go.Proofs.YthjojamcolmbdaaDoor
namespace Rows

/-- THE TIED CARD OF 'stoplinelaw05.SiteMay'. -/
def siteMayCard : Claim7 := { stood := { row := siteMayRow, standIns := [], harness := (true, "0d09017954fd18d6c6197616bba5d75940851e5face88fc328be598db894cc8d"), looks := false }, kinds := [], alts := [], laidByText := true, laidKinds := [.data], laidTests := true, laidLooks := .later }
def SiteMayCardSaid : Prop := Claim7.holds Tryd.pinned (.plain (OpenSpec.ofChange siteMaySpec)) siteMayCard

/-- THE TIED CARD OF 'stoplinelaw26.SplitWorst'. -/
def splitWorstCard : Claim7 := { stood := { row := splitWorstRow, standIns := [], harness := (true, "0d09017954fd18d6c6197616bba5d75940851e5face88fc328be598db894cc8d"), looks := false }, kinds := [], alts := [], laidByText := true, laidKinds := [.data], laidTests := true, laidLooks := .later }
def SplitWorstCardSaid : Prop := Claim7.holds Tryd.pinned (.plain (OpenSpec.ofChange splitWorstSpec)) splitWorstCard

/-- THE TIED CARD OF 'stoplinelaw28.WedVotes'. -/
def wedVotesCard : Claim7 := { stood := { row := wedVotesRow, standIns := [], harness := (true, "0d09017954fd18d6c6197616bba5d75940851e5face88fc328be598db894cc8d"), looks := false }, kinds := [], alts := [], laidByText := true, laidKinds := [.data], laidTests := true, laidLooks := .later }
def WedVotesCardSaid : Prop := Claim7.holds Tryd.pinned (.plain (OpenSpec.ofChange wedVotesSpec)) wedVotesCard

/-- THE TIED CARD OF 'stoplinelaw28.WedComes'. -/
def wedComesCard : Claim7 := { stood := { row := wedComesRow, standIns := [], harness := (true, "0d09017954fd18d6c6197616bba5d75940851e5face88fc328be598db894cc8d"), looks := false }, kinds := [], alts := [], laidByText := true, laidKinds := [.data], laidTests := true, laidLooks := .later }
def WedComesCardSaid : Prop := Claim7.holds Tryd.pinned (.plain (OpenSpec.ofChange wedComesSpec)) wedComesCard

/-- THE TIED CARD OF 'stoplinelaw06.NetMay'. -/
def netMayCard : Claim7 := { stood := { row := netMayRow, standIns := [], harness := (true, "0d09017954fd18d6c6197616bba5d75940851e5face88fc328be598db894cc8d"), looks := false }, kinds := [], alts := [], laidByText := true, laidKinds := [.data], laidTests := true, laidLooks := .later }
def NetMayCardSaid : Prop := Claim7.holds Tryd.pinned (.plain (OpenSpec.ofChange netMaySpec)) netMayCard

/-- THE TIED CARD OF 'stoplinelaw25.CycleNames'. -/
def cycleNamesCard : Claim7 := { stood := { row := cycleNamesRow, standIns := [], harness := (true, "0d09017954fd18d6c6197616bba5d75940851e5face88fc328be598db894cc8d"), looks := false }, kinds := [], alts := [], laidByText := true, laidKinds := [.data], laidTests := true, laidLooks := .later }
def CycleNamesCardSaid : Prop := Claim7.holds Tryd.pinned (.plain (OpenSpec.ofChange cycleNamesSpec)) cycleNamesCard

/-- THE TIED CARD OF 'stoplinelaw25.CycleVotes'. -/
def cycleVotesCard : Claim7 := { stood := { row := cycleVotesRow, standIns := [], harness := (true, "0d09017954fd18d6c6197616bba5d75940851e5face88fc328be598db894cc8d"), looks := false }, kinds := [], alts := [], laidByText := true, laidKinds := [.data], laidTests := true, laidLooks := .later }
def CycleVotesCardSaid : Prop := Claim7.holds Tryd.pinned (.plain (OpenSpec.ofChange cycleVotesSpec)) cycleVotesCard

/-- THE TIED CARD OF 'stoplinelaw25.CycleNears'. -/
def cycleNearsCard : Claim7 := { stood := { row := cycleNearsRow, standIns := [], harness := (true, "0d09017954fd18d6c6197616bba5d75940851e5face88fc328be598db894cc8d"), looks := false }, kinds := [], alts := [], laidByText := true, laidKinds := [.data], laidTests := true, laidLooks := .later }
def CycleNearsCardSaid : Prop := Claim7.holds Tryd.pinned (.plain (OpenSpec.ofChange cycleNearsSpec)) cycleNearsCard

/-- THE TIED CARD OF 'stoplinelaw25.CycleRises'. -/
def cycleRisesCard : Claim7 := { stood := { row := cycleRisesRow, standIns := [], harness := (true, "0d09017954fd18d6c6197616bba5d75940851e5face88fc328be598db894cc8d"), looks := false }, kinds := [], alts := [], laidByText := true, laidKinds := [.data], laidTests := true, laidLooks := .later }
def CycleRisesCardSaid : Prop := Claim7.holds Tryd.pinned (.plain (OpenSpec.ofChange cycleRisesSpec)) cycleRisesCard

/-- THE TIED CARD OF 'stoplinelaw26.SplitStays'. -/
def splitStaysCard : Claim7 := { stood := { row := splitStaysRow, standIns := [], harness := (true, "0d09017954fd18d6c6197616bba5d75940851e5face88fc328be598db894cc8d"), looks := false }, kinds := [], alts := [], laidByText := true, laidKinds := [.data], laidTests := true, laidLooks := .later }
def SplitStaysCardSaid : Prop := Claim7.holds Tryd.pinned (.plain (OpenSpec.ofChange splitStaysSpec)) splitStaysCard

/-- THE TIED CARD OF 'stoplinelaw27.OffsetNames'. -/
def offsetNamesCard : Claim7 := { stood := { row := offsetNamesRow, standIns := [], harness := (true, "0d09017954fd18d6c6197616bba5d75940851e5face88fc328be598db894cc8d"), looks := false }, kinds := [], alts := [], laidByText := true, laidKinds := [.data], laidTests := true, laidLooks := .later }
def OffsetNamesCardSaid : Prop := Claim7.holds Tryd.pinned (.plain (OpenSpec.ofChange offsetNamesSpec)) offsetNamesCard

/-- THE TIED CARD OF 'stoplinelaw26.SplitLeast'. -/
def splitLeastCard : Claim7 := { stood := { row := splitLeastRow, standIns := [], harness := (true, "0d09017954fd18d6c6197616bba5d75940851e5face88fc328be598db894cc8d"), looks := false }, kinds := [], alts := [], laidByText := true, laidKinds := [.data], laidTests := true, laidLooks := .later }
def SplitLeastCardSaid : Prop := Claim7.holds Tryd.pinned (.plain (OpenSpec.ofChange splitLeastSpec)) splitLeastCard

/-- THE SECOND FORM's CARD OF 'stoplinelaw05.SiteMay'. -/
def siteMayUptoCard : Claim7 := { stood := { row := siteMayUptoRow, standIns := [], harness := (true, "0d09017954fd18d6c6197616bba5d75940851e5face88fc328be598db894cc8d"), looks := false }, kinds := [], alts := [], laidByText := true, laidKinds := [.data], laidTests := true, laidLooks := .later }
def SiteMayUptoCardSaid : Prop := Claim7.holds Tryd.pinned (.plain (OpenSpec.upto siteMaySpec)) siteMayUptoCard

/-- THE SECOND FORM's CARD OF 'stoplinelaw26.SplitWorst'. -/
def splitWorstUptoCard : Claim7 := { stood := { row := splitWorstUptoRow, standIns := [], harness := (true, "0d09017954fd18d6c6197616bba5d75940851e5face88fc328be598db894cc8d"), looks := false }, kinds := [], alts := [], laidByText := true, laidKinds := [.data], laidTests := true, laidLooks := .later }
def SplitWorstUptoCardSaid : Prop := Claim7.holds Tryd.pinned (.plain (OpenSpec.upto splitWorstSpec)) splitWorstUptoCard

/-- THE SECOND FORM's CARD OF 'stoplinelaw28.WedVotes'. -/
def wedVotesUptoCard : Claim7 := { stood := { row := wedVotesUptoRow, standIns := [], harness := (true, "0d09017954fd18d6c6197616bba5d75940851e5face88fc328be598db894cc8d"), looks := false }, kinds := [], alts := [], laidByText := true, laidKinds := [.data], laidTests := true, laidLooks := .later }
def WedVotesUptoCardSaid : Prop := Claim7.holds Tryd.pinned (.plain (OpenSpec.upto wedVotesSpec)) wedVotesUptoCard

/-- THE SECOND FORM's CARD OF 'stoplinelaw28.WedComes'. -/
def wedComesUptoCard : Claim7 := { stood := { row := wedComesUptoRow, standIns := [], harness := (true, "0d09017954fd18d6c6197616bba5d75940851e5face88fc328be598db894cc8d"), looks := false }, kinds := [], alts := [], laidByText := true, laidKinds := [.data], laidTests := true, laidLooks := .later }
def WedComesUptoCardSaid : Prop := Claim7.holds Tryd.pinned (.plain (OpenSpec.upto wedComesSpec)) wedComesUptoCard

/-- THE SECOND FORM's CARD OF 'stoplinelaw06.NetMay'. -/
def netMayUptoCard : Claim7 := { stood := { row := netMayUptoRow, standIns := [], harness := (true, "0d09017954fd18d6c6197616bba5d75940851e5face88fc328be598db894cc8d"), looks := false }, kinds := [], alts := [], laidByText := true, laidKinds := [.data], laidTests := true, laidLooks := .later }
def NetMayUptoCardSaid : Prop := Claim7.holds Tryd.pinned (.plain (OpenSpec.upto netMaySpec)) netMayUptoCard

/-- THE SECOND FORM's CARD OF 'stoplinelaw25.CycleNames'. -/
def cycleNamesUptoCard : Claim7 := { stood := { row := cycleNamesUptoRow, standIns := [], harness := (true, "0d09017954fd18d6c6197616bba5d75940851e5face88fc328be598db894cc8d"), looks := false }, kinds := [], alts := [], laidByText := true, laidKinds := [.data], laidTests := true, laidLooks := .later }
def CycleNamesUptoCardSaid : Prop := Claim7.holds Tryd.pinned (.plain (OpenSpec.upto cycleNamesSpec)) cycleNamesUptoCard

/-- THE SECOND FORM's CARD OF 'stoplinelaw25.CycleVotes'. -/
def cycleVotesUptoCard : Claim7 := { stood := { row := cycleVotesUptoRow, standIns := [], harness := (true, "0d09017954fd18d6c6197616bba5d75940851e5face88fc328be598db894cc8d"), looks := false }, kinds := [], alts := [], laidByText := true, laidKinds := [.data], laidTests := true, laidLooks := .later }
def CycleVotesUptoCardSaid : Prop := Claim7.holds Tryd.pinned (.plain (OpenSpec.upto cycleVotesSpec)) cycleVotesUptoCard

/-- THE SECOND FORM's CARD OF 'stoplinelaw25.CycleNears'. -/
def cycleNearsUptoCard : Claim7 := { stood := { row := cycleNearsUptoRow, standIns := [], harness := (true, "0d09017954fd18d6c6197616bba5d75940851e5face88fc328be598db894cc8d"), looks := false }, kinds := [], alts := [], laidByText := true, laidKinds := [.data], laidTests := true, laidLooks := .later }
def CycleNearsUptoCardSaid : Prop := Claim7.holds Tryd.pinned (.plain (OpenSpec.upto cycleNearsSpec)) cycleNearsUptoCard

/-- THE SECOND FORM's CARD OF 'stoplinelaw25.CycleRises'. -/
def cycleRisesUptoCard : Claim7 := { stood := { row := cycleRisesUptoRow, standIns := [], harness := (true, "0d09017954fd18d6c6197616bba5d75940851e5face88fc328be598db894cc8d"), looks := false }, kinds := [], alts := [], laidByText := true, laidKinds := [.data], laidTests := true, laidLooks := .later }
def CycleRisesUptoCardSaid : Prop := Claim7.holds Tryd.pinned (.plain (OpenSpec.upto cycleRisesSpec)) cycleRisesUptoCard

/-- THE SECOND FORM's CARD OF 'stoplinelaw26.SplitStays'. -/
def splitStaysUptoCard : Claim7 := { stood := { row := splitStaysUptoRow, standIns := [], harness := (true, "0d09017954fd18d6c6197616bba5d75940851e5face88fc328be598db894cc8d"), looks := false }, kinds := [], alts := [], laidByText := true, laidKinds := [.data], laidTests := true, laidLooks := .later }
def SplitStaysUptoCardSaid : Prop := Claim7.holds Tryd.pinned (.plain (OpenSpec.upto splitStaysSpec)) splitStaysUptoCard

/-- THE SECOND FORM's CARD OF 'stoplinelaw27.OffsetNames'. -/
def offsetNamesUptoCard : Claim7 := { stood := { row := offsetNamesUptoRow, standIns := [], harness := (true, "0d09017954fd18d6c6197616bba5d75940851e5face88fc328be598db894cc8d"), looks := false }, kinds := [], alts := [], laidByText := true, laidKinds := [.data], laidTests := true, laidLooks := .later }
def OffsetNamesUptoCardSaid : Prop := Claim7.holds Tryd.pinned (.plain (OpenSpec.upto offsetNamesSpec)) offsetNamesUptoCard

/-- THE SECOND FORM's CARD OF 'stoplinelaw26.SplitLeast'. -/
def splitLeastUptoCard : Claim7 := { stood := { row := splitLeastUptoRow, standIns := [], harness := (true, "0d09017954fd18d6c6197616bba5d75940851e5face88fc328be598db894cc8d"), looks := false }, kinds := [], alts := [], laidByText := true, laidKinds := [.data], laidTests := true, laidLooks := .later }
def SplitLeastUptoCardSaid : Prop := Claim7.holds Tryd.pinned (.plain (OpenSpec.upto splitLeastSpec)) splitLeastUptoCard
end Rows
end Go.Proofs.YthjojamcolmbdaaDoor
