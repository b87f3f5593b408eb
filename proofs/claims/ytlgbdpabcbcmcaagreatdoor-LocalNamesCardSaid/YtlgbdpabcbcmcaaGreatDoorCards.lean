/-
  DERIVED. GIVEN WITH THE SEED: THE CARDS: each row of YtlgbdpabcbcmcaaGreatDoorRows.lean that lists a variable, with what it lists TIED to the program's text (the seventh form; the later family's looks); each row that meets fmt, with fmt's text TOLD by the authors' own Lean function (tested against real Go, not proved from fmt's source: count such statements apart). THE CARD IS WHAT COUNTS. Prove the row's statement (the work); the ties are given (YtlgbdpabcbcmcaaGreatDoorTie.lean); close each card by the builder's one call (the guide's Derived/Test/ToyasCard.lean, 'card_holds'). Laid BY PROGRAM, IN A SANDBOX (cutbox-door.mjs). By AI agents, Wed Nov 11 2026. No macro, syntax, notation, axiom, sorry.
-/
import Derived.Test.YtlgbdpabcbcmcaaGreatDoorRows
import GoSem.ClaimSeven
namespace Go.Proofs.YtlgbdpabcbcmcaaGreatDoor
namespace Rows

/-- THE TIED CARD OF 'stoplinelaw23.LocalDown'. -/
def localDownCard : Claim7 := { stood := { row := localDownRow, standIns := [], harness := (true, "c157b1140a8a95764e45e2ebcedea6d11e05bb96815d0308880e74469ccc64fd"), looks := false }, kinds := [], alts := [], laidByText := true, laidKinds := [.data, .data], laidTests := true, laidLooks := .later }
def LocalDownCardSaid : Prop := Claim7.holds Tryz.pinned (.plain (OpenSpec.ofChange localDownSpec)) localDownCard

/-- THE TIED CARD OF 'stoplinelaw23.LocalUp'. -/
def localUpCard : Claim7 := { stood := { row := localUpRow, standIns := [], harness := (true, "c157b1140a8a95764e45e2ebcedea6d11e05bb96815d0308880e74469ccc64fd"), looks := false }, kinds := [], alts := [], laidByText := true, laidKinds := [.data, .data], laidTests := true, laidLooks := .later }
def LocalUpCardSaid : Prop := Claim7.holds Tryz.pinned (.plain (OpenSpec.ofChange localUpSpec)) localUpCard

/-- THE TIED CARD OF 'stoplinelaw23.LocalSafe'. -/
def localSafeCard : Claim7 := { stood := { row := localSafeRow, standIns := [], harness := (true, "c157b1140a8a95764e45e2ebcedea6d11e05bb96815d0308880e74469ccc64fd"), looks := false }, kinds := [], alts := [], laidByText := true, laidKinds := [.data, .data], laidTests := true, laidLooks := .later }
def LocalSafeCardSaid : Prop := Claim7.holds Tryz.pinned (.plain (OpenSpec.ofChange localSafeSpec)) localSafeCard

/-- THE TIED CARD OF 'stoplinelaw23.LocalNames'. -/
def localNamesCard : Claim7 := { stood := { row := localNamesRow, standIns := [], harness := (true, "c157b1140a8a95764e45e2ebcedea6d11e05bb96815d0308880e74469ccc64fd"), looks := false }, kinds := [], alts := [], laidByText := true, laidKinds := [.data, .data], laidTests := true, laidLooks := .later }
def LocalNamesCardSaid : Prop := Claim7.holds Tryz.pinned (.plain (OpenSpec.ofChange localNamesSpec)) localNamesCard

/-- THE TIED CARD OF 'stoplinelaw23.LocalServes'. -/
def localServesCard : Claim7 := { stood := { row := localServesRow, standIns := [], harness := (true, "c157b1140a8a95764e45e2ebcedea6d11e05bb96815d0308880e74469ccc64fd"), looks := false }, kinds := [], alts := [], laidByText := true, laidKinds := [.data, .data], laidTests := true, laidLooks := .later }
def LocalServesCardSaid : Prop := Claim7.holds Tryz.pinned (.plain (OpenSpec.ofChange localServesSpec)) localServesCard

/-- THE SECOND FORM's CARD OF 'stoplinelaw23.LocalDown'. -/
def localDownUptoCard : Claim7 := { stood := { row := localDownUptoRow, standIns := [], harness := (true, "c157b1140a8a95764e45e2ebcedea6d11e05bb96815d0308880e74469ccc64fd"), looks := false }, kinds := [], alts := [], laidByText := true, laidKinds := [.data, .data], laidTests := true, laidLooks := .later }
def LocalDownUptoCardSaid : Prop := Claim7.holds Tryz.pinned (.plain (OpenSpec.upto localDownSpec)) localDownUptoCard

/-- THE SECOND FORM's CARD OF 'stoplinelaw23.LocalUp'. -/
def localUpUptoCard : Claim7 := { stood := { row := localUpUptoRow, standIns := [], harness := (true, "c157b1140a8a95764e45e2ebcedea6d11e05bb96815d0308880e74469ccc64fd"), looks := false }, kinds := [], alts := [], laidByText := true, laidKinds := [.data, .data], laidTests := true, laidLooks := .later }
def LocalUpUptoCardSaid : Prop := Claim7.holds Tryz.pinned (.plain (OpenSpec.upto localUpSpec)) localUpUptoCard

/-- THE SECOND FORM's CARD OF 'stoplinelaw23.LocalSafe'. -/
def localSafeUptoCard : Claim7 := { stood := { row := localSafeUptoRow, standIns := [], harness := (true, "c157b1140a8a95764e45e2ebcedea6d11e05bb96815d0308880e74469ccc64fd"), looks := false }, kinds := [], alts := [], laidByText := true, laidKinds := [.data, .data], laidTests := true, laidLooks := .later }
def LocalSafeUptoCardSaid : Prop := Claim7.holds Tryz.pinned (.plain (OpenSpec.upto localSafeSpec)) localSafeUptoCard

/-- THE SECOND FORM's CARD OF 'stoplinelaw23.LocalNames'. -/
def localNamesUptoCard : Claim7 := { stood := { row := localNamesUptoRow, standIns := [], harness := (true, "c157b1140a8a95764e45e2ebcedea6d11e05bb96815d0308880e74469ccc64fd"), looks := false }, kinds := [], alts := [], laidByText := true, laidKinds := [.data, .data], laidTests := true, laidLooks := .later }
def LocalNamesUptoCardSaid : Prop := Claim7.holds Tryz.pinned (.plain (OpenSpec.upto localNamesSpec)) localNamesUptoCard

/-- THE SECOND FORM's CARD OF 'stoplinelaw23.LocalServes'. -/
def localServesUptoCard : Claim7 := { stood := { row := localServesUptoRow, standIns := [], harness := (true, "c157b1140a8a95764e45e2ebcedea6d11e05bb96815d0308880e74469ccc64fd"), looks := false }, kinds := [], alts := [], laidByText := true, laidKinds := [.data, .data], laidTests := true, laidLooks := .later }
def LocalServesUptoCardSaid : Prop := Claim7.holds Tryz.pinned (.plain (OpenSpec.upto localServesSpec)) localServesUptoCard
end Rows
end Go.Proofs.YtlgbdpabcbcmcaaGreatDoor
