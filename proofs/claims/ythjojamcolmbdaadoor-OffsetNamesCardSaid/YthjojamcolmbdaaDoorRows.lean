/-
  NARROWER THAN 'FOR EVERY INPUT', by the rows' own cells (each row's printed sentence says how): SiteMay: laid · SplitWorst: laid · WedVotes: laid · WedComes: laid · NetMay: laid · CycleNames: laid · CycleVotes: laid · CycleNears: laid · CycleRises: laid · SplitStays: laid · OffsetNames: laid · SplitLeast: laid.
  DERIVED. THE GIVEN ROWS OF THIS SEAT. 12 by the template 'for every input the law returns true; each argument reads behind the call as it read before'; 0 by the template 'total and deterministic' (their statements: YthjojamcolmbdaaDoorTotals.lean).
  GIVEN WITH THE SEED: the statements are not yours to turn. If you find one false, say at which input.
  Laid BY PROGRAM, IN A SANDBOX (cutbox-rows.mjs): the forced cells as the released guide's own fill.sh prints them over the translation 225975dc44ad9412… (all of the seat's roots in one cut). By AI agents, Wed Nov 11 2026. No macro, syntax, notation, axiom, sorry.
-/
import Derived.Test.YthjojamcolmbdaaDoorChecked
import GoSem.Claim
import GoSem.ClaimJoined
import GoSem.ClaimMapViews
import Derived.JoinedTies
import Derived.KernelRfl
namespace Go.Proofs.YthjojamcolmbdaaDoor
/- THE CELL 'sum', in the pinned program and in every row, IS THE sha256 OF THE DUMP (.gsa) THAT YthjojamcolmbdaaDoorProg.lean LOADS. Nothing in Lean hashes anything: it is a label: what it is worth is what the hold of that sum in a sandbox is worth. -/
noncomputable def Tryd.pinned : Pinned := { name := "ythjojamcolmbdaadoor", sum := "225975dc44ad9412ca38806a13203b93e744ffdab8fb5a8b9c48c1e21c3f4d3f", checked := Tryd.checked }
namespace Rows
def none {H : Type} : Left H := { results := [], args := [] }

/- WHAT THE LISTED PACKAGE-LEVEL VARIABLES READ AS WHEN THE CALL BEGINS. Each datum BY PROGRAM (the guide's laid-datum.mjs) off the statement by which the dump's own 'gosem.cut.vars' lays the variable. In a bare row this is a premise. The card (YthjojamcolmbdaaDoorCards.lean) ties it to the program's text. -/
def laid_math_bits_deBruijn32tab {H : Type} : DataW H := .agg [.lit (.int .u8 0), .lit (.int .u8 1), .lit (.int .u8 28), .lit (.int .u8 2), .lit (.int .u8 29), .lit (.int .u8 14), .lit (.int .u8 24), .lit (.int .u8 3), .lit (.int .u8 30), .lit (.int .u8 22), .lit (.int .u8 20), .lit (.int .u8 15), .lit (.int .u8 25), .lit (.int .u8 17), .lit (.int .u8 4), .lit (.int .u8 8), .lit (.int .u8 31), .lit (.int .u8 27), .lit (.int .u8 13), .lit (.int .u8 23), .lit (.int .u8 21), .lit (.int .u8 19), .lit (.int .u8 16), .lit (.int .u8 7), .lit (.int .u8 26), .lit (.int .u8 12), .lit (.int .u8 18), .lit (.int .u8 6), .lit (.int .u8 11), .lit (.int .u8 5), .lit (.int .u8 10), .lit (.int .u8 9)]

/-- 'stoplinelaw05.SiteMay': WHATEVER THE INPUT: true; the input reads as it did. -/
def siteMaySpec : ChangeSpec := { name := "siteMay", fn := fun _ => fun
  | [d1, d2, d3, d4] => { results := [.lit (.bool true)], args := [d1, d2, d3, d4] }
  | _ => none }
def siteMayRow : OpenClaim := { program := "ythjojamcolmbdaadoor", sum := "225975dc44ad9412ca38806a13203b93e744ffdab8fb5a8b9c48c1e21c3f4d3f", func := "stopline/stoplinelaw05.SiteMay", spec := "siteMay", unfollowed := true, recurses := true, named := ["math/bits.deBruijn32tab"], plainKeys := false, apart := false, laid := [("math/bits.deBruijn32tab", laid_math_bits_deBruijn32tab)] }
def SiteMaySaid : Prop := siteMayRow.holds Tryd.pinned (OpenSpec.ofChange siteMaySpec)

/-- ITS FALSE NEIGHBOUR: 'it returns false'. Refute it at one input. -/
def siteMayWrong : ChangeSpec := { name := "siteMay", fn := fun _ => fun
  | [d1, d2, d3, d4] => { results := [.lit (.bool false)], args := [d1, d2, d3, d4] }
  | _ => none }
def SiteMayWrongFalsely : Prop := siteMayRow.holds Tryd.pinned (OpenSpec.ofChange siteMayWrong)

/-- 'stoplinelaw26.SplitWorst': WHATEVER THE INPUT: true; the input reads as it did. -/
def splitWorstSpec : ChangeSpec := { name := "splitWorst", fn := fun _ => fun
  | [d1, d2, d3, d4] => { results := [.lit (.bool true)], args := [d1, d2, d3, d4] }
  | _ => none }
def splitWorstRow : OpenClaim := { program := "ythjojamcolmbdaadoor", sum := "225975dc44ad9412ca38806a13203b93e744ffdab8fb5a8b9c48c1e21c3f4d3f", func := "stopline/stoplinelaw26.SplitWorst", spec := "splitWorst", unfollowed := true, recurses := true, named := ["math/bits.deBruijn32tab"], plainKeys := false, apart := false, laid := [("math/bits.deBruijn32tab", laid_math_bits_deBruijn32tab)] }
def SplitWorstSaid : Prop := splitWorstRow.holds Tryd.pinned (OpenSpec.ofChange splitWorstSpec)

/-- ITS FALSE NEIGHBOUR: 'it returns false'. Refute it at one input. -/
def splitWorstWrong : ChangeSpec := { name := "splitWorst", fn := fun _ => fun
  | [d1, d2, d3, d4] => { results := [.lit (.bool false)], args := [d1, d2, d3, d4] }
  | _ => none }
def SplitWorstWrongFalsely : Prop := splitWorstRow.holds Tryd.pinned (OpenSpec.ofChange splitWorstWrong)

/-- 'stoplinelaw28.WedVotes': WHATEVER THE INPUT: true; the input reads as it did. -/
def wedVotesSpec : ChangeSpec := { name := "wedVotes", fn := fun _ => fun
  | [d1, d2, d3, d4, d5] => { results := [.lit (.bool true)], args := [d1, d2, d3, d4, d5] }
  | _ => none }
def wedVotesRow : OpenClaim := { program := "ythjojamcolmbdaadoor", sum := "225975dc44ad9412ca38806a13203b93e744ffdab8fb5a8b9c48c1e21c3f4d3f", func := "stopline/stoplinelaw28.WedVotes", spec := "wedVotes", unfollowed := true, recurses := true, named := ["math/bits.deBruijn32tab"], plainKeys := false, apart := false, laid := [("math/bits.deBruijn32tab", laid_math_bits_deBruijn32tab)] }
def WedVotesSaid : Prop := wedVotesRow.holds Tryd.pinned (OpenSpec.ofChange wedVotesSpec)

/-- ITS FALSE NEIGHBOUR: 'it returns false'. Refute it at one input. -/
def wedVotesWrong : ChangeSpec := { name := "wedVotes", fn := fun _ => fun
  | [d1, d2, d3, d4, d5] => { results := [.lit (.bool false)], args := [d1, d2, d3, d4, d5] }
  | _ => none }
def WedVotesWrongFalsely : Prop := wedVotesRow.holds Tryd.pinned (OpenSpec.ofChange wedVotesWrong)

/-- 'stoplinelaw28.WedComes': WHATEVER THE INPUT: true; the input reads as it did. -/
def wedComesSpec : ChangeSpec := { name := "wedComes", fn := fun _ => fun
  | [d1, d2, d3, d4, d5] => { results := [.lit (.bool true)], args := [d1, d2, d3, d4, d5] }
  | _ => none }
def wedComesRow : OpenClaim := { program := "ythjojamcolmbdaadoor", sum := "225975dc44ad9412ca38806a13203b93e744ffdab8fb5a8b9c48c1e21c3f4d3f", func := "stopline/stoplinelaw28.WedComes", spec := "wedComes", unfollowed := true, recurses := true, named := ["math/bits.deBruijn32tab"], plainKeys := false, apart := false, laid := [("math/bits.deBruijn32tab", laid_math_bits_deBruijn32tab)] }
def WedComesSaid : Prop := wedComesRow.holds Tryd.pinned (OpenSpec.ofChange wedComesSpec)

/-- ITS FALSE NEIGHBOUR: 'it returns false'. Refute it at one input. -/
def wedComesWrong : ChangeSpec := { name := "wedComes", fn := fun _ => fun
  | [d1, d2, d3, d4, d5] => { results := [.lit (.bool false)], args := [d1, d2, d3, d4, d5] }
  | _ => none }
def WedComesWrongFalsely : Prop := wedComesRow.holds Tryd.pinned (OpenSpec.ofChange wedComesWrong)

/-- 'stoplinelaw06.NetMay': WHATEVER THE INPUT: true; the input reads as it did. -/
def netMaySpec : ChangeSpec := { name := "netMay", fn := fun _ => fun
  | [d1, d2] => { results := [.lit (.bool true)], args := [d1, d2] }
  | _ => none }
def netMayRow : OpenClaim := { program := "ythjojamcolmbdaadoor", sum := "225975dc44ad9412ca38806a13203b93e744ffdab8fb5a8b9c48c1e21c3f4d3f", func := "stopline/stoplinelaw06.NetMay", spec := "netMay", unfollowed := true, recurses := true, named := ["math/bits.deBruijn32tab"], plainKeys := false, apart := false, laid := [("math/bits.deBruijn32tab", laid_math_bits_deBruijn32tab)] }
def NetMaySaid : Prop := netMayRow.holds Tryd.pinned (OpenSpec.ofChange netMaySpec)

/-- ITS FALSE NEIGHBOUR: 'it returns false'. Refute it at one input. -/
def netMayWrong : ChangeSpec := { name := "netMay", fn := fun _ => fun
  | [d1, d2] => { results := [.lit (.bool false)], args := [d1, d2] }
  | _ => none }
def NetMayWrongFalsely : Prop := netMayRow.holds Tryd.pinned (OpenSpec.ofChange netMayWrong)

/-- 'stoplinelaw25.CycleNames': WHATEVER THE INPUT: true; the input reads as it did. -/
def cycleNamesSpec : ChangeSpec := { name := "cycleNames", fn := fun _ => fun
  | [] => { results := [.lit (.bool true)], args := [] }
  | _ => none }
def cycleNamesRow : OpenClaim := { program := "ythjojamcolmbdaadoor", sum := "225975dc44ad9412ca38806a13203b93e744ffdab8fb5a8b9c48c1e21c3f4d3f", func := "stopline/stoplinelaw25.CycleNames", spec := "cycleNames", unfollowed := true, recurses := true, named := ["math/bits.deBruijn32tab"], plainKeys := false, apart := false, laid := [("math/bits.deBruijn32tab", laid_math_bits_deBruijn32tab)] }
def CycleNamesSaid : Prop := cycleNamesRow.holds Tryd.pinned (OpenSpec.ofChange cycleNamesSpec)

/-- ITS FALSE NEIGHBOUR: 'it returns false'. Refute it at one input. -/
def cycleNamesWrong : ChangeSpec := { name := "cycleNames", fn := fun _ => fun
  | [] => { results := [.lit (.bool false)], args := [] }
  | _ => none }
def CycleNamesWrongFalsely : Prop := cycleNamesRow.holds Tryd.pinned (OpenSpec.ofChange cycleNamesWrong)

/-- 'stoplinelaw25.CycleVotes': WHATEVER THE INPUT: true; the input reads as it did. -/
def cycleVotesSpec : ChangeSpec := { name := "cycleVotes", fn := fun _ => fun
  | [d1, d2, d3] => { results := [.lit (.bool true)], args := [d1, d2, d3] }
  | _ => none }
def cycleVotesRow : OpenClaim := { program := "ythjojamcolmbdaadoor", sum := "225975dc44ad9412ca38806a13203b93e744ffdab8fb5a8b9c48c1e21c3f4d3f", func := "stopline/stoplinelaw25.CycleVotes", spec := "cycleVotes", unfollowed := true, recurses := true, named := ["math/bits.deBruijn32tab"], plainKeys := false, apart := false, laid := [("math/bits.deBruijn32tab", laid_math_bits_deBruijn32tab)] }
def CycleVotesSaid : Prop := cycleVotesRow.holds Tryd.pinned (OpenSpec.ofChange cycleVotesSpec)

/-- ITS FALSE NEIGHBOUR: 'it returns false'. Refute it at one input. -/
def cycleVotesWrong : ChangeSpec := { name := "cycleVotes", fn := fun _ => fun
  | [d1, d2, d3] => { results := [.lit (.bool false)], args := [d1, d2, d3] }
  | _ => none }
def CycleVotesWrongFalsely : Prop := cycleVotesRow.holds Tryd.pinned (OpenSpec.ofChange cycleVotesWrong)

/-- 'stoplinelaw25.CycleNears': WHATEVER THE INPUT: true; the input reads as it did. -/
def cycleNearsSpec : ChangeSpec := { name := "cycleNears", fn := fun _ => fun
  | [d1, d2, d3] => { results := [.lit (.bool true)], args := [d1, d2, d3] }
  | _ => none }
def cycleNearsRow : OpenClaim := { program := "ythjojamcolmbdaadoor", sum := "225975dc44ad9412ca38806a13203b93e744ffdab8fb5a8b9c48c1e21c3f4d3f", func := "stopline/stoplinelaw25.CycleNears", spec := "cycleNears", unfollowed := true, recurses := true, named := ["math/bits.deBruijn32tab"], plainKeys := false, apart := false, laid := [("math/bits.deBruijn32tab", laid_math_bits_deBruijn32tab)] }
def CycleNearsSaid : Prop := cycleNearsRow.holds Tryd.pinned (OpenSpec.ofChange cycleNearsSpec)

/-- ITS FALSE NEIGHBOUR: 'it returns false'. Refute it at one input. -/
def cycleNearsWrong : ChangeSpec := { name := "cycleNears", fn := fun _ => fun
  | [d1, d2, d3] => { results := [.lit (.bool false)], args := [d1, d2, d3] }
  | _ => none }
def CycleNearsWrongFalsely : Prop := cycleNearsRow.holds Tryd.pinned (OpenSpec.ofChange cycleNearsWrong)

/-- 'stoplinelaw25.CycleRises': WHATEVER THE INPUT: true; the input reads as it did. -/
def cycleRisesSpec : ChangeSpec := { name := "cycleRises", fn := fun _ => fun
  | [d1, d2, d3] => { results := [.lit (.bool true)], args := [d1, d2, d3] }
  | _ => none }
def cycleRisesRow : OpenClaim := { program := "ythjojamcolmbdaadoor", sum := "225975dc44ad9412ca38806a13203b93e744ffdab8fb5a8b9c48c1e21c3f4d3f", func := "stopline/stoplinelaw25.CycleRises", spec := "cycleRises", unfollowed := true, recurses := true, named := ["math/bits.deBruijn32tab"], plainKeys := false, apart := false, laid := [("math/bits.deBruijn32tab", laid_math_bits_deBruijn32tab)] }
def CycleRisesSaid : Prop := cycleRisesRow.holds Tryd.pinned (OpenSpec.ofChange cycleRisesSpec)

/-- ITS FALSE NEIGHBOUR: 'it returns false'. Refute it at one input. -/
def cycleRisesWrong : ChangeSpec := { name := "cycleRises", fn := fun _ => fun
  | [d1, d2, d3] => { results := [.lit (.bool false)], args := [d1, d2, d3] }
  | _ => none }
def CycleRisesWrongFalsely : Prop := cycleRisesRow.holds Tryd.pinned (OpenSpec.ofChange cycleRisesWrong)

/-- 'stoplinelaw26.SplitStays': WHATEVER THE INPUT: true; the input reads as it did. -/
def splitStaysSpec : ChangeSpec := { name := "splitStays", fn := fun _ => fun
  | [d1, d2, d3, d4] => { results := [.lit (.bool true)], args := [d1, d2, d3, d4] }
  | _ => none }
def splitStaysRow : OpenClaim := { program := "ythjojamcolmbdaadoor", sum := "225975dc44ad9412ca38806a13203b93e744ffdab8fb5a8b9c48c1e21c3f4d3f", func := "stopline/stoplinelaw26.SplitStays", spec := "splitStays", unfollowed := true, recurses := true, named := ["math/bits.deBruijn32tab"], plainKeys := false, apart := false, laid := [("math/bits.deBruijn32tab", laid_math_bits_deBruijn32tab)] }
def SplitStaysSaid : Prop := splitStaysRow.holds Tryd.pinned (OpenSpec.ofChange splitStaysSpec)

/-- ITS FALSE NEIGHBOUR: 'it returns false'. Refute it at one input. -/
def splitStaysWrong : ChangeSpec := { name := "splitStays", fn := fun _ => fun
  | [d1, d2, d3, d4] => { results := [.lit (.bool false)], args := [d1, d2, d3, d4] }
  | _ => none }
def SplitStaysWrongFalsely : Prop := splitStaysRow.holds Tryd.pinned (OpenSpec.ofChange splitStaysWrong)

/-- 'stoplinelaw27.OffsetNames': WHATEVER THE INPUT: true; the input reads as it did. -/
def offsetNamesSpec : ChangeSpec := { name := "offsetNames", fn := fun _ => fun
  | [] => { results := [.lit (.bool true)], args := [] }
  | _ => none }
def offsetNamesRow : OpenClaim := { program := "ythjojamcolmbdaadoor", sum := "225975dc44ad9412ca38806a13203b93e744ffdab8fb5a8b9c48c1e21c3f4d3f", func := "stopline/stoplinelaw27.OffsetNames", spec := "offsetNames", unfollowed := true, recurses := true, named := ["math/bits.deBruijn32tab"], plainKeys := false, apart := false, laid := [("math/bits.deBruijn32tab", laid_math_bits_deBruijn32tab)] }
def OffsetNamesSaid : Prop := offsetNamesRow.holds Tryd.pinned (OpenSpec.ofChange offsetNamesSpec)

/-- ITS FALSE NEIGHBOUR: 'it returns false'. Refute it at one input. -/
def offsetNamesWrong : ChangeSpec := { name := "offsetNames", fn := fun _ => fun
  | [] => { results := [.lit (.bool false)], args := [] }
  | _ => none }
def OffsetNamesWrongFalsely : Prop := offsetNamesRow.holds Tryd.pinned (OpenSpec.ofChange offsetNamesWrong)

/-- 'stoplinelaw26.SplitLeast': WHATEVER THE INPUT: true; the input reads as it did. -/
def splitLeastSpec : ChangeSpec := { name := "splitLeast", fn := fun _ => fun
  | [d1, d2, d3, d4] => { results := [.lit (.bool true)], args := [d1, d2, d3, d4] }
  | _ => none }
def splitLeastRow : OpenClaim := { program := "ythjojamcolmbdaadoor", sum := "225975dc44ad9412ca38806a13203b93e744ffdab8fb5a8b9c48c1e21c3f4d3f", func := "stopline/stoplinelaw26.SplitLeast", spec := "splitLeast", unfollowed := true, recurses := true, named := ["math/bits.deBruijn32tab"], plainKeys := false, apart := false, laid := [("math/bits.deBruijn32tab", laid_math_bits_deBruijn32tab)] }
def SplitLeastSaid : Prop := splitLeastRow.holds Tryd.pinned (OpenSpec.ofChange splitLeastSpec)

/-- ITS FALSE NEIGHBOUR: 'it returns false'. Refute it at one input. -/
def splitLeastWrong : ChangeSpec := { name := "splitLeast", fn := fun _ => fun
  | [d1, d2, d3, d4] => { results := [.lit (.bool false)], args := [d1, d2, d3, d4] }
  | _ => none }
def SplitLeastWrongFalsely : Prop := splitLeastRow.holds Tryd.pinned (OpenSpec.ofChange splitLeastWrong)

/- THE SECOND FORM. 'bulk': how many values and letters a reading holds, each counted each time it is reached (what is shared counts as often as it is met; a slice's spare places count too). A statement '..UptoSaid' is the law's where the arguments, and the package variables that the reading takes, are together of bulk at most 1048576: NARROWER than '..Said'. Prove '..Said' where nothing that the law and all that it calls make is longer than what came in: it says more and counts as full. Else prove '..UptoSaid'. A law counts once. -/
mutual
def uptoBulk {H : Type} : DataW H → Nat
  | .lit (.string bytes) => bytes.length + 1
  | .lit _ => 1
  | .nil => 1
  | .ptr d => uptoBulk d + 1
  | .slice elems spare => uptoBulkAll elems + uptoBulkAll spare + 1
  | .agg parts => uptoBulkAll parts + 1
  | .iface _ d => uptoBulk d + 1
  | .map entries => uptoBulkEntries entries + 1
  | .held _ => 1
def uptoBulkAll {H : Type} : List (DataW H) → Nat
  | [] => 0
  | d :: r => uptoBulk d + uptoBulkAll r
def uptoBulkEntries {H : Type} : List (Lit × DataW H) → Nat
  | [] => 0
  | x :: r => uptoBulkEntry x + uptoBulkEntries r
def uptoBulkEntry {H : Type} : Lit × DataW H → Nat
  | (.string bytes, d) => bytes.length + uptoBulk d + 1
  | (_, d) => uptoBulk d + 1
 end
def uptoSmall : (H : Type) → List (DataW H) → Bool := fun _ ds => decide (uptoBulkAll ds ≤ 1048576)
def OpenSpec.upto (s : _root_.Go.ChangeSpec) : _root_.Go.OpenSpec := { _root_.Go.OpenSpec.ofChange s with cond := some uptoSmall }

/-- 'stoplinelaw05.SiteMay', WHERE WHAT IT READS IS OF BULK AT MOST 1048576: true; the input reads as it did. -/
def siteMayUptoRow : OpenClaim := { program := "ythjojamcolmbdaadoor", sum := "225975dc44ad9412ca38806a13203b93e744ffdab8fb5a8b9c48c1e21c3f4d3f", func := "stopline/stoplinelaw05.SiteMay", spec := "siteMay", unfollowed := true, recurses := true, named := ["math/bits.deBruijn32tab"], plainKeys := false, apart := false, laid := [("math/bits.deBruijn32tab", laid_math_bits_deBruijn32tab)], narrowed := true }
def SiteMayUptoSaid : Prop := siteMayUptoRow.holds Tryd.pinned (OpenSpec.upto siteMaySpec)

/-- 'stoplinelaw26.SplitWorst', WHERE WHAT IT READS IS OF BULK AT MOST 1048576: true; the input reads as it did. -/
def splitWorstUptoRow : OpenClaim := { program := "ythjojamcolmbdaadoor", sum := "225975dc44ad9412ca38806a13203b93e744ffdab8fb5a8b9c48c1e21c3f4d3f", func := "stopline/stoplinelaw26.SplitWorst", spec := "splitWorst", unfollowed := true, recurses := true, named := ["math/bits.deBruijn32tab"], plainKeys := false, apart := false, laid := [("math/bits.deBruijn32tab", laid_math_bits_deBruijn32tab)], narrowed := true }
def SplitWorstUptoSaid : Prop := splitWorstUptoRow.holds Tryd.pinned (OpenSpec.upto splitWorstSpec)

/-- 'stoplinelaw28.WedVotes', WHERE WHAT IT READS IS OF BULK AT MOST 1048576: true; the input reads as it did. -/
def wedVotesUptoRow : OpenClaim := { program := "ythjojamcolmbdaadoor", sum := "225975dc44ad9412ca38806a13203b93e744ffdab8fb5a8b9c48c1e21c3f4d3f", func := "stopline/stoplinelaw28.WedVotes", spec := "wedVotes", unfollowed := true, recurses := true, named := ["math/bits.deBruijn32tab"], plainKeys := false, apart := false, laid := [("math/bits.deBruijn32tab", laid_math_bits_deBruijn32tab)], narrowed := true }
def WedVotesUptoSaid : Prop := wedVotesUptoRow.holds Tryd.pinned (OpenSpec.upto wedVotesSpec)

/-- 'stoplinelaw28.WedComes', WHERE WHAT IT READS IS OF BULK AT MOST 1048576: true; the input reads as it did. -/
def wedComesUptoRow : OpenClaim := { program := "ythjojamcolmbdaadoor", sum := "225975dc44ad9412ca38806a13203b93e744ffdab8fb5a8b9c48c1e21c3f4d3f", func := "stopline/stoplinelaw28.WedComes", spec := "wedComes", unfollowed := true, recurses := true, named := ["math/bits.deBruijn32tab"], plainKeys := false, apart := false, laid := [("math/bits.deBruijn32tab", laid_math_bits_deBruijn32tab)], narrowed := true }
def WedComesUptoSaid : Prop := wedComesUptoRow.holds Tryd.pinned (OpenSpec.upto wedComesSpec)

/-- 'stoplinelaw06.NetMay', WHERE WHAT IT READS IS OF BULK AT MOST 1048576: true; the input reads as it did. -/
def netMayUptoRow : OpenClaim := { program := "ythjojamcolmbdaadoor", sum := "225975dc44ad9412ca38806a13203b93e744ffdab8fb5a8b9c48c1e21c3f4d3f", func := "stopline/stoplinelaw06.NetMay", spec := "netMay", unfollowed := true, recurses := true, named := ["math/bits.deBruijn32tab"], plainKeys := false, apart := false, laid := [("math/bits.deBruijn32tab", laid_math_bits_deBruijn32tab)], narrowed := true }
def NetMayUptoSaid : Prop := netMayUptoRow.holds Tryd.pinned (OpenSpec.upto netMaySpec)

/-- 'stoplinelaw25.CycleNames', WHERE WHAT IT READS IS OF BULK AT MOST 1048576: true; the input reads as it did. -/
def cycleNamesUptoRow : OpenClaim := { program := "ythjojamcolmbdaadoor", sum := "225975dc44ad9412ca38806a13203b93e744ffdab8fb5a8b9c48c1e21c3f4d3f", func := "stopline/stoplinelaw25.CycleNames", spec := "cycleNames", unfollowed := true, recurses := true, named := ["math/bits.deBruijn32tab"], plainKeys := false, apart := false, laid := [("math/bits.deBruijn32tab", laid_math_bits_deBruijn32tab)], narrowed := true }
def CycleNamesUptoSaid : Prop := cycleNamesUptoRow.holds Tryd.pinned (OpenSpec.upto cycleNamesSpec)

/-- 'stoplinelaw25.CycleVotes', WHERE WHAT IT READS IS OF BULK AT MOST 1048576: true; the input reads as it did. -/
def cycleVotesUptoRow : OpenClaim := { program := "ythjojamcolmbdaadoor", sum := "225975dc44ad9412ca38806a13203b93e744ffdab8fb5a8b9c48c1e21c3f4d3f", func := "stopline/stoplinelaw25.CycleVotes", spec := "cycleVotes", unfollowed := true, recurses := true, named := ["math/bits.deBruijn32tab"], plainKeys := false, apart := false, laid := [("math/bits.deBruijn32tab", laid_math_bits_deBruijn32tab)], narrowed := true }
def CycleVotesUptoSaid : Prop := cycleVotesUptoRow.holds Tryd.pinned (OpenSpec.upto cycleVotesSpec)

/-- 'stoplinelaw25.CycleNears', WHERE WHAT IT READS IS OF BULK AT MOST 1048576: true; the input reads as it did. -/
def cycleNearsUptoRow : OpenClaim := { program := "ythjojamcolmbdaadoor", sum := "225975dc44ad9412ca38806a13203b93e744ffdab8fb5a8b9c48c1e21c3f4d3f", func := "stopline/stoplinelaw25.CycleNears", spec := "cycleNears", unfollowed := true, recurses := true, named := ["math/bits.deBruijn32tab"], plainKeys := false, apart := false, laid := [("math/bits.deBruijn32tab", laid_math_bits_deBruijn32tab)], narrowed := true }
def CycleNearsUptoSaid : Prop := cycleNearsUptoRow.holds Tryd.pinned (OpenSpec.upto cycleNearsSpec)

/-- 'stoplinelaw25.CycleRises', WHERE WHAT IT READS IS OF BULK AT MOST 1048576: true; the input reads as it did. -/
def cycleRisesUptoRow : OpenClaim := { program := "ythjojamcolmbdaadoor", sum := "225975dc44ad9412ca38806a13203b93e744ffdab8fb5a8b9c48c1e21c3f4d3f", func := "stopline/stoplinelaw25.CycleRises", spec := "cycleRises", unfollowed := true, recurses := true, named := ["math/bits.deBruijn32tab"], plainKeys := false, apart := false, laid := [("math/bits.deBruijn32tab", laid_math_bits_deBruijn32tab)], narrowed := true }
def CycleRisesUptoSaid : Prop := cycleRisesUptoRow.holds Tryd.pinned (OpenSpec.upto cycleRisesSpec)

/-- 'stoplinelaw26.SplitStays', WHERE WHAT IT READS IS OF BULK AT MOST 1048576: true; the input reads as it did. -/
def splitStaysUptoRow : OpenClaim := { program := "ythjojamcolmbdaadoor", sum := "225975dc44ad9412ca38806a13203b93e744ffdab8fb5a8b9c48c1e21c3f4d3f", func := "stopline/stoplinelaw26.SplitStays", spec := "splitStays", unfollowed := true, recurses := true, named := ["math/bits.deBruijn32tab"], plainKeys := false, apart := false, laid := [("math/bits.deBruijn32tab", laid_math_bits_deBruijn32tab)], narrowed := true }
def SplitStaysUptoSaid : Prop := splitStaysUptoRow.holds Tryd.pinned (OpenSpec.upto splitStaysSpec)

/-- 'stoplinelaw27.OffsetNames', WHERE WHAT IT READS IS OF BULK AT MOST 1048576: true; the input reads as it did. -/
def offsetNamesUptoRow : OpenClaim := { program := "ythjojamcolmbdaadoor", sum := "225975dc44ad9412ca38806a13203b93e744ffdab8fb5a8b9c48c1e21c3f4d3f", func := "stopline/stoplinelaw27.OffsetNames", spec := "offsetNames", unfollowed := true, recurses := true, named := ["math/bits.deBruijn32tab"], plainKeys := false, apart := false, laid := [("math/bits.deBruijn32tab", laid_math_bits_deBruijn32tab)], narrowed := true }
def OffsetNamesUptoSaid : Prop := offsetNamesUptoRow.holds Tryd.pinned (OpenSpec.upto offsetNamesSpec)

/-- 'stoplinelaw26.SplitLeast', WHERE WHAT IT READS IS OF BULK AT MOST 1048576: true; the input reads as it did. -/
def splitLeastUptoRow : OpenClaim := { program := "ythjojamcolmbdaadoor", sum := "225975dc44ad9412ca38806a13203b93e744ffdab8fb5a8b9c48c1e21c3f4d3f", func := "stopline/stoplinelaw26.SplitLeast", spec := "splitLeast", unfollowed := true, recurses := true, named := ["math/bits.deBruijn32tab"], plainKeys := false, apart := false, laid := [("math/bits.deBruijn32tab", laid_math_bits_deBruijn32tab)], narrowed := true }
def SplitLeastUptoSaid : Prop := splitLeastUptoRow.holds Tryd.pinned (OpenSpec.upto splitLeastSpec)

end Rows
end Go.Proofs.YthjojamcolmbdaaDoor
