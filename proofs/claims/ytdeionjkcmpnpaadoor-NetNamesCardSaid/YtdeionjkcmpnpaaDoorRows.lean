/-
  NARROWER THAN 'FOR EVERY INPUT', by the rows' own cells (each row's printed sentence says how): SplitWishes: laid · SiteBytes: laid · WedGoes: laid · NetBack: laid · NetCycles: laid · NetParts: laid · NetNames: laid.
  DERIVED. THE GIVEN ROWS OF THIS SEAT. 7 by the template 'for every input the law returns true; each argument reads behind the call as it read before'; 0 by the template 'total and deterministic' (their statements: YtdeionjkcmpnpaaDoorTotals.lean).
  GIVEN WITH THE SEED: the statements are not yours to turn. If you find one false, say at which input.
  Laid BY PROGRAM, IN A SANDBOX (cutbox-rows.mjs): the forced cells as the released guide's own fill.sh prints them over the translation 28b996ab0fa9d19b… (all of the seat's roots in one cut). By AI agents, Wed Nov 11 2026. No macro, syntax, notation, axiom, sorry.
-/
import Derived.Test.YtdeionjkcmpnpaaDoorChecked
import GoSem.Claim
import GoSem.ClaimJoined
import GoSem.ClaimMapViews
import Derived.JoinedTies
import Derived.KernelRfl
namespace Go.Proofs.YtdeionjkcmpnpaaDoor
/- THE CELL 'sum', in the pinned program and in every row, IS THE sha256 OF THE DUMP (.gsa) THAT YtdeionjkcmpnpaaDoorProg.lean LOADS. Nothing in Lean hashes anything: it is a label: what it is worth is what the hold of that sum in a sandbox is worth. -/
noncomputable def Tryd.pinned : Pinned := { name := "ytdeionjkcmpnpaadoor", sum := "28b996ab0fa9d19b39d7c52dbdd343cb269ff52a639179ec40a3733d62fda8b4", checked := Tryd.checked }
namespace Rows
def none {H : Type} : Left H := { results := [], args := [] }

/- WHAT THE LISTED PACKAGE-LEVEL VARIABLES READ AS WHEN THE CALL BEGINS. Each datum BY PROGRAM (the guide's laid-datum.mjs) off the statement by which the dump's own 'gosem.cut.vars' lays the variable. In a bare row this is a premise. The card (YtdeionjkcmpnpaaDoorCards.lean) ties it to the program's text. -/
def laid_math_bits_deBruijn32tab {H : Type} : DataW H := .agg [.lit (.int .u8 0), .lit (.int .u8 1), .lit (.int .u8 28), .lit (.int .u8 2), .lit (.int .u8 29), .lit (.int .u8 14), .lit (.int .u8 24), .lit (.int .u8 3), .lit (.int .u8 30), .lit (.int .u8 22), .lit (.int .u8 20), .lit (.int .u8 15), .lit (.int .u8 25), .lit (.int .u8 17), .lit (.int .u8 4), .lit (.int .u8 8), .lit (.int .u8 31), .lit (.int .u8 27), .lit (.int .u8 13), .lit (.int .u8 23), .lit (.int .u8 21), .lit (.int .u8 19), .lit (.int .u8 16), .lit (.int .u8 7), .lit (.int .u8 26), .lit (.int .u8 12), .lit (.int .u8 18), .lit (.int .u8 6), .lit (.int .u8 11), .lit (.int .u8 5), .lit (.int .u8 10), .lit (.int .u8 9)]

/-- 'stoplinelaw26.SplitWishes': WHATEVER THE INPUT: true; the input reads as it did. -/
def splitWishesSpec : ChangeSpec := { name := "splitWishes", fn := fun _ => fun
  | [d1, d2, d3, d4, d5] => { results := [.lit (.bool true)], args := [d1, d2, d3, d4, d5] }
  | _ => none }
def splitWishesRow : OpenClaim := { program := "ytdeionjkcmpnpaadoor", sum := "28b996ab0fa9d19b39d7c52dbdd343cb269ff52a639179ec40a3733d62fda8b4", func := "stopline/stoplinelaw26.SplitWishes", spec := "splitWishes", unfollowed := true, recurses := true, named := ["math/bits.deBruijn32tab"], plainKeys := false, apart := false, laid := [("math/bits.deBruijn32tab", laid_math_bits_deBruijn32tab)] }
def SplitWishesSaid : Prop := splitWishesRow.holds Tryd.pinned (OpenSpec.ofChange splitWishesSpec)

/-- ITS FALSE NEIGHBOUR: 'it returns false'. Refute it at one input. -/
def splitWishesWrong : ChangeSpec := { name := "splitWishes", fn := fun _ => fun
  | [d1, d2, d3, d4, d5] => { results := [.lit (.bool false)], args := [d1, d2, d3, d4, d5] }
  | _ => none }
def SplitWishesWrongFalsely : Prop := splitWishesRow.holds Tryd.pinned (OpenSpec.ofChange splitWishesWrong)

/-- 'stoplinelaw05.SiteBytes': WHATEVER THE INPUT: true; the input reads as it did. -/
def siteBytesSpec : ChangeSpec := { name := "siteBytes", fn := fun _ => fun
  | [d1, d2, d3] => { results := [.lit (.bool true)], args := [d1, d2, d3] }
  | _ => none }
def siteBytesRow : OpenClaim := { program := "ytdeionjkcmpnpaadoor", sum := "28b996ab0fa9d19b39d7c52dbdd343cb269ff52a639179ec40a3733d62fda8b4", func := "stopline/stoplinelaw05.SiteBytes", spec := "siteBytes", named := ["math/bits.deBruijn32tab"], plainKeys := false, apart := false, laid := [("math/bits.deBruijn32tab", laid_math_bits_deBruijn32tab)] }
def SiteBytesSaid : Prop := siteBytesRow.holds Tryd.pinned (OpenSpec.ofChange siteBytesSpec)

/-- ITS FALSE NEIGHBOUR: 'it returns false'. Refute it at one input. -/
def siteBytesWrong : ChangeSpec := { name := "siteBytes", fn := fun _ => fun
  | [d1, d2, d3] => { results := [.lit (.bool false)], args := [d1, d2, d3] }
  | _ => none }
def SiteBytesWrongFalsely : Prop := siteBytesRow.holds Tryd.pinned (OpenSpec.ofChange siteBytesWrong)

/-- 'stoplinelaw28.WedGoes': WHATEVER THE INPUT: true; the input reads as it did. -/
def wedGoesSpec : ChangeSpec := { name := "wedGoes", fn := fun _ => fun
  | [d1, d2, d3, d4] => { results := [.lit (.bool true)], args := [d1, d2, d3, d4] }
  | _ => none }
def wedGoesRow : OpenClaim := { program := "ytdeionjkcmpnpaadoor", sum := "28b996ab0fa9d19b39d7c52dbdd343cb269ff52a639179ec40a3733d62fda8b4", func := "stopline/stoplinelaw28.WedGoes", spec := "wedGoes", unfollowed := true, recurses := true, named := ["math/bits.deBruijn32tab"], plainKeys := false, apart := false, laid := [("math/bits.deBruijn32tab", laid_math_bits_deBruijn32tab)] }
def WedGoesSaid : Prop := wedGoesRow.holds Tryd.pinned (OpenSpec.ofChange wedGoesSpec)

/-- ITS FALSE NEIGHBOUR: 'it returns false'. Refute it at one input. -/
def wedGoesWrong : ChangeSpec := { name := "wedGoes", fn := fun _ => fun
  | [d1, d2, d3, d4] => { results := [.lit (.bool false)], args := [d1, d2, d3, d4] }
  | _ => none }
def WedGoesWrongFalsely : Prop := wedGoesRow.holds Tryd.pinned (OpenSpec.ofChange wedGoesWrong)

/-- 'stoplinelaw06.NetBack': WHATEVER THE INPUT: true; the input reads as it did. -/
def netBackSpec : ChangeSpec := { name := "netBack", fn := fun _ => fun
  | [d1, d2] => { results := [.lit (.bool true)], args := [d1, d2] }
  | _ => none }
def netBackRow : OpenClaim := { program := "ytdeionjkcmpnpaadoor", sum := "28b996ab0fa9d19b39d7c52dbdd343cb269ff52a639179ec40a3733d62fda8b4", func := "stopline/stoplinelaw06.NetBack", spec := "netBack", unfollowed := true, recurses := true, named := ["math/bits.deBruijn32tab"], plainKeys := false, apart := false, laid := [("math/bits.deBruijn32tab", laid_math_bits_deBruijn32tab)] }
def NetBackSaid : Prop := netBackRow.holds Tryd.pinned (OpenSpec.ofChange netBackSpec)

/-- ITS FALSE NEIGHBOUR: 'it returns false'. Refute it at one input. -/
def netBackWrong : ChangeSpec := { name := "netBack", fn := fun _ => fun
  | [d1, d2] => { results := [.lit (.bool false)], args := [d1, d2] }
  | _ => none }
def NetBackWrongFalsely : Prop := netBackRow.holds Tryd.pinned (OpenSpec.ofChange netBackWrong)

/-- 'stoplinelaw06.NetCycles': WHATEVER THE INPUT: true; the input reads as it did. -/
def netCyclesSpec : ChangeSpec := { name := "netCycles", fn := fun _ => fun
  | [d] => { results := [.lit (.bool true)], args := [d] }
  | _ => none }
def netCyclesRow : OpenClaim := { program := "ytdeionjkcmpnpaadoor", sum := "28b996ab0fa9d19b39d7c52dbdd343cb269ff52a639179ec40a3733d62fda8b4", func := "stopline/stoplinelaw06.NetCycles", spec := "netCycles", unfollowed := true, recurses := true, named := ["math/bits.deBruijn32tab"], plainKeys := false, apart := false, laid := [("math/bits.deBruijn32tab", laid_math_bits_deBruijn32tab)] }
def NetCyclesSaid : Prop := netCyclesRow.holds Tryd.pinned (OpenSpec.ofChange netCyclesSpec)

/-- ITS FALSE NEIGHBOUR: 'it returns false'. Refute it at one input. -/
def netCyclesWrong : ChangeSpec := { name := "netCycles", fn := fun _ => fun
  | [d] => { results := [.lit (.bool false)], args := [d] }
  | _ => none }
def NetCyclesWrongFalsely : Prop := netCyclesRow.holds Tryd.pinned (OpenSpec.ofChange netCyclesWrong)

/-- 'stoplinelaw06.NetParts': WHATEVER THE INPUT: true; the input reads as it did. -/
def netPartsSpec : ChangeSpec := { name := "netParts", fn := fun _ => fun
  | [d] => { results := [.lit (.bool true)], args := [d] }
  | _ => none }
def netPartsRow : OpenClaim := { program := "ytdeionjkcmpnpaadoor", sum := "28b996ab0fa9d19b39d7c52dbdd343cb269ff52a639179ec40a3733d62fda8b4", func := "stopline/stoplinelaw06.NetParts", spec := "netParts", unfollowed := true, recurses := true, named := ["math/bits.deBruijn32tab"], plainKeys := false, apart := false, laid := [("math/bits.deBruijn32tab", laid_math_bits_deBruijn32tab)] }
def NetPartsSaid : Prop := netPartsRow.holds Tryd.pinned (OpenSpec.ofChange netPartsSpec)

/-- ITS FALSE NEIGHBOUR: 'it returns false'. Refute it at one input. -/
def netPartsWrong : ChangeSpec := { name := "netParts", fn := fun _ => fun
  | [d] => { results := [.lit (.bool false)], args := [d] }
  | _ => none }
def NetPartsWrongFalsely : Prop := netPartsRow.holds Tryd.pinned (OpenSpec.ofChange netPartsWrong)

/-- 'stoplinelaw06.NetNames': WHATEVER THE INPUT: true; the input reads as it did. -/
def netNamesSpec : ChangeSpec := { name := "netNames", fn := fun _ => fun
  | [] => { results := [.lit (.bool true)], args := [] }
  | _ => none }
def netNamesRow : OpenClaim := { program := "ytdeionjkcmpnpaadoor", sum := "28b996ab0fa9d19b39d7c52dbdd343cb269ff52a639179ec40a3733d62fda8b4", func := "stopline/stoplinelaw06.NetNames", spec := "netNames", unfollowed := true, recurses := true, named := ["math/bits.deBruijn32tab"], plainKeys := false, apart := false, laid := [("math/bits.deBruijn32tab", laid_math_bits_deBruijn32tab)] }
def NetNamesSaid : Prop := netNamesRow.holds Tryd.pinned (OpenSpec.ofChange netNamesSpec)

/-- ITS FALSE NEIGHBOUR: 'it returns false'. Refute it at one input. -/
def netNamesWrong : ChangeSpec := { name := "netNames", fn := fun _ => fun
  | [] => { results := [.lit (.bool false)], args := [] }
  | _ => none }
def NetNamesWrongFalsely : Prop := netNamesRow.holds Tryd.pinned (OpenSpec.ofChange netNamesWrong)

/- THE SECOND FORM. 'bulk': how many values and letters a reading holds, each counted each time it is reached (what is shared counts as often as it is met; a slice's spare places count too). A statement '..UptoSaid' is the law's where the arguments, and the package variables that the reading takes, are together of bulk at most 1048576: NARROWER than '..Said'. Prove '..Said' where nothing that the law and all that it calls make is longer than what came in: it says more and counts as full. Else prove '..UptoSaid'. A law counts once. -/
mutual
def uptoBulk {H : Type} : DataW H → Nat
  | .lit (.string bytes) => bytes.length + 1
  | .lit _ => 1
  | .nil => 1
  | .ptr d => uptoBulk d + 1
  | .slice elems spare => uptoBulkAll elems + uptoBulkAll spare + 1
  | .agg parts => uptoBulkAll parts + 1
  | .iface _ d => uptoBulk d + 1
  | .map entries => uptoBulkEntries entries + 1
  | .held _ => 1
def uptoBulkAll {H : Type} : List (DataW H) → Nat
  | [] => 0
  | d :: r => uptoBulk d + uptoBulkAll r
def uptoBulkEntries {H : Type} : List (Lit × DataW H) → Nat
  | [] => 0
  | x :: r => uptoBulkEntry x + uptoBulkEntries r
def uptoBulkEntry {H : Type} : Lit × DataW H → Nat
  | (.string bytes, d) => bytes.length + uptoBulk d + 1
  | (_, d) => uptoBulk d + 1
 end
def uptoSmall : (H : Type) → List (DataW H) → Bool := fun _ ds => decide (uptoBulkAll ds ≤ 1048576)
def OpenSpec.upto (s : _root_.Go.ChangeSpec) : _root_.Go.OpenSpec := { _root_.Go.OpenSpec.ofChange s with cond := some uptoSmall }

/-- 'stoplinelaw26.SplitWishes', WHERE WHAT IT READS IS OF BULK AT MOST 1048576: true; the input reads as it did. -/
def splitWishesUptoRow : OpenClaim := { program := "ytdeionjkcmpnpaadoor", sum := "28b996ab0fa9d19b39d7c52dbdd343cb269ff52a639179ec40a3733d62fda8b4", func := "stopline/stoplinelaw26.SplitWishes", spec := "splitWishes", unfollowed := true, recurses := true, named := ["math/bits.deBruijn32tab"], plainKeys := false, apart := false, laid := [("math/bits.deBruijn32tab", laid_math_bits_deBruijn32tab)], narrowed := true }
def SplitWishesUptoSaid : Prop := splitWishesUptoRow.holds Tryd.pinned (OpenSpec.upto splitWishesSpec)

/-- 'stoplinelaw05.SiteBytes', WHERE WHAT IT READS IS OF BULK AT MOST 1048576: true; the input reads as it did. -/
def siteBytesUptoRow : OpenClaim := { program := "ytdeionjkcmpnpaadoor", sum := "28b996ab0fa9d19b39d7c52dbdd343cb269ff52a639179ec40a3733d62fda8b4", func := "stopline/stoplinelaw05.SiteBytes", spec := "siteBytes", named := ["math/bits.deBruijn32tab"], plainKeys := false, apart := false, laid := [("math/bits.deBruijn32tab", laid_math_bits_deBruijn32tab)], narrowed := true }
def SiteBytesUptoSaid : Prop := siteBytesUptoRow.holds Tryd.pinned (OpenSpec.upto siteBytesSpec)

/-- 'stoplinelaw28.WedGoes', WHERE WHAT IT READS IS OF BULK AT MOST 1048576: true; the input reads as it did. -/
def wedGoesUptoRow : OpenClaim := { program := "ytdeionjkcmpnpaadoor", sum := "28b996ab0fa9d19b39d7c52dbdd343cb269ff52a639179ec40a3733d62fda8b4", func := "stopline/stoplinelaw28.WedGoes", spec := "wedGoes", unfollowed := true, recurses := true, named := ["math/bits.deBruijn32tab"], plainKeys := false, apart := false, laid := [("math/bits.deBruijn32tab", laid_math_bits_deBruijn32tab)], narrowed := true }
def WedGoesUptoSaid : Prop := wedGoesUptoRow.holds Tryd.pinned (OpenSpec.upto wedGoesSpec)

/-- 'stoplinelaw06.NetBack', WHERE WHAT IT READS IS OF BULK AT MOST 1048576: true; the input reads as it did. -/
def netBackUptoRow : OpenClaim := { program := "ytdeionjkcmpnpaadoor", sum := "28b996ab0fa9d19b39d7c52dbdd343cb269ff52a639179ec40a3733d62fda8b4", func := "stopline/stoplinelaw06.NetBack", spec := "netBack", unfollowed := true, recurses := true, named := ["math/bits.deBruijn32tab"], plainKeys := false, apart := false, laid := [("math/bits.deBruijn32tab", laid_math_bits_deBruijn32tab)], narrowed := true }
def NetBackUptoSaid : Prop := netBackUptoRow.holds Tryd.pinned (OpenSpec.upto netBackSpec)

/-- 'stoplinelaw06.NetCycles', WHERE WHAT IT READS IS OF BULK AT MOST 1048576: true; the input reads as it did. -/
def netCyclesUptoRow : OpenClaim := { program := "ytdeionjkcmpnpaadoor", sum := "28b996ab0fa9d19b39d7c52dbdd343cb269ff52a639179ec40a3733d62fda8b4", func := "stopline/stoplinelaw06.NetCycles", spec := "netCycles", unfollowed := true, recurses := true, named := ["math/bits.deBruijn32tab"], plainKeys := false, apart := false, laid := [("math/bits.deBruijn32tab", laid_math_bits_deBruijn32tab)], narrowed := true }
def NetCyclesUptoSaid : Prop := netCyclesUptoRow.holds Tryd.pinned (OpenSpec.upto netCyclesSpec)

/-- 'stoplinelaw06.NetParts', WHERE WHAT IT READS IS OF BULK AT MOST 1048576: true; the input reads as it did. -/
def netPartsUptoRow : OpenClaim := { program := "ytdeionjkcmpnpaadoor", sum := "28b996ab0fa9d19b39d7c52dbdd343cb269ff52a639179ec40a3733d62fda8b4", func := "stopline/stoplinelaw06.NetParts", spec := "netParts", unfollowed := true, recurses := true, named := ["math/bits.deBruijn32tab"], plainKeys := false, apart := false, laid := [("math/bits.deBruijn32tab", laid_math_bits_deBruijn32tab)], narrowed := true }
def NetPartsUptoSaid : Prop := netPartsUptoRow.holds Tryd.pinned (OpenSpec.upto netPartsSpec)

/-- 'stoplinelaw06.NetNames', WHERE WHAT IT READS IS OF BULK AT MOST 1048576: true; the input reads as it did. -/
def netNamesUptoRow : OpenClaim := { program := "ytdeionjkcmpnpaadoor", sum := "28b996ab0fa9d19b39d7c52dbdd343cb269ff52a639179ec40a3733d62fda8b4", func := "stopline/stoplinelaw06.NetNames", spec := "netNames", unfollowed := true, recurses := true, named := ["math/bits.deBruijn32tab"], plainKeys := false, apart := false, laid := [("math/bits.deBruijn32tab", laid_math_bits_deBruijn32tab)], narrowed := true }
def NetNamesUptoSaid : Prop := netNamesUptoRow.holds Tryd.pinned (OpenSpec.upto netNamesSpec)

end Rows
end Go.Proofs.YtdeionjkcmpnpaaDoor
