/-
  DERIVED. GIVEN WITH THE SEED: THE CARDS: each row of YtpijmanjjhpkiaaGreatDoorRows.lean that lists a variable, with what it lists TIED to the program's text (the seventh form; the later family's looks); each row that meets fmt, with fmt's text TOLD by the authors' own Lean function (tested against real Go, not proved from fmt's source: count such statements apart). THE CARD IS WHAT COUNTS. Prove the row's statement (the work); the ties are given (YtpijmanjjhpkiaaGreatDoorTie.lean); close each card by the builder's one call (the guide's Derived/Test/ToyasCard.lean, 'card_holds'). Laid BY PROGRAM, IN A SANDBOX (cutbox-door.mjs). By AI agents, Wed Nov 11 2026. No macro, syntax, notation, axiom, sorry.
-/
import Derived.Test.YtpijmanjjhpkiaaGreatDoorRows
import GoSem.ClaimSeven
namespace Go.Proofs.YtpijmanjjhpkiaaGreatDoor
namespace Rows

/-- THE TIED CARD OF 'stoplinelaw29.MasterRests'. -/
def masterRestsCard : Claim7 := { stood := { row := masterRestsRow, standIns := [], harness := (true, "11b3e214fef7227c603a1eea1d473341820dab2df50f0b327d73ec6680b1ac48"), looks := false }, kinds := [], alts := [], laidByText := true, laidKinds := [.data], laidTests := true, laidLooks := .later }
def MasterRestsCardSaid : Prop := Claim7.holds Tryz.pinned (.plain (OpenSpec.ofChange masterRestsSpec)) masterRestsCard

/-- THE TIED CARD OF 'stoplinelaw29.MasterNames'. -/
def masterNamesCard : Claim7 := { stood := { row := masterNamesRow, standIns := [], harness := (true, "11b3e214fef7227c603a1eea1d473341820dab2df50f0b327d73ec6680b1ac48"), looks := false }, kinds := [], alts := [], laidByText := true, laidKinds := [.data], laidTests := true, laidLooks := .later }
def MasterNamesCardSaid : Prop := Claim7.holds Tryz.pinned (.plain (OpenSpec.ofChange masterNamesSpec)) masterNamesCard

/-- THE TIED CARD OF 'stoplinelaw29.MasterBeats'. -/
def masterBeatsCard : Claim7 := { stood := { row := masterBeatsRow, standIns := [], harness := (true, "11b3e214fef7227c603a1eea1d473341820dab2df50f0b327d73ec6680b1ac48"), looks := false }, kinds := [], alts := [], laidByText := true, laidKinds := [.data], laidTests := true, laidLooks := .later }
def MasterBeatsCardSaid : Prop := Claim7.holds Tryz.pinned (.plain (OpenSpec.ofChange masterBeatsSpec)) masterBeatsCard

/-- THE TIED CARD OF 'stoplinelaw29.MasterKeeps'. -/
def masterKeepsCard : Claim7 := { stood := { row := masterKeepsRow, standIns := [], harness := (true, "11b3e214fef7227c603a1eea1d473341820dab2df50f0b327d73ec6680b1ac48"), looks := false }, kinds := [], alts := [], laidByText := true, laidKinds := [.data], laidTests := true, laidLooks := .later }
def MasterKeepsCardSaid : Prop := Claim7.holds Tryz.pinned (.plain (OpenSpec.ofChange masterKeepsSpec)) masterKeepsCard

/-- THE SECOND FORM's CARD OF 'stoplinelaw29.MasterRests'. -/
def masterRestsUptoCard : Claim7 := { stood := { row := masterRestsUptoRow, standIns := [], harness := (true, "11b3e214fef7227c603a1eea1d473341820dab2df50f0b327d73ec6680b1ac48"), looks := false }, kinds := [], alts := [], laidByText := true, laidKinds := [.data], laidTests := true, laidLooks := .later }
def MasterRestsUptoCardSaid : Prop := Claim7.holds Tryz.pinned (.plain (OpenSpec.upto masterRestsSpec)) masterRestsUptoCard

/-- THE SECOND FORM's CARD OF 'stoplinelaw29.MasterNames'. -/
def masterNamesUptoCard : Claim7 := { stood := { row := masterNamesUptoRow, standIns := [], harness := (true, "11b3e214fef7227c603a1eea1d473341820dab2df50f0b327d73ec6680b1ac48"), looks := false }, kinds := [], alts := [], laidByText := true, laidKinds := [.data], laidTests := true, laidLooks := .later }
def MasterNamesUptoCardSaid : Prop := Claim7.holds Tryz.pinned (.plain (OpenSpec.upto masterNamesSpec)) masterNamesUptoCard

/-- THE SECOND FORM's CARD OF 'stoplinelaw29.MasterBeats'. -/
def masterBeatsUptoCard : Claim7 := { stood := { row := masterBeatsUptoRow, standIns := [], harness := (true, "11b3e214fef7227c603a1eea1d473341820dab2df50f0b327d73ec6680b1ac48"), looks := false }, kinds := [], alts := [], laidByText := true, laidKinds := [.data], laidTests := true, laidLooks := .later }
def MasterBeatsUptoCardSaid : Prop := Claim7.holds Tryz.pinned (.plain (OpenSpec.upto masterBeatsSpec)) masterBeatsUptoCard

/-- THE SECOND FORM's CARD OF 'stoplinelaw29.MasterKeeps'. -/
def masterKeepsUptoCard : Claim7 := { stood := { row := masterKeepsUptoRow, standIns := [], harness := (true, "11b3e214fef7227c603a1eea1d473341820dab2df50f0b327d73ec6680b1ac48"), looks := false }, kinds := [], alts := [], laidByText := true, laidKinds := [.data], laidTests := true, laidLooks := .later }
def MasterKeepsUptoCardSaid : Prop := Claim7.holds Tryz.pinned (.plain (OpenSpec.upto masterKeepsSpec)) masterKeepsUptoCard
end Rows
end Go.Proofs.YtpijmanjjhpkiaaGreatDoor
