/-
  No cell of these rows narrows 'for every input' (looked for: loops, veiled, ifaces, maps, wideKeys, modest, calm, conditions, laid).
  DERIVED. THE GIVEN ROWS OF THIS SEAT. 6 by the template 'for every input the law returns true; each argument reads behind the call as it read before'; 0 by the template 'total and deterministic' (their statements: YtnikgmdpnlfbiaaTotals.lean).
  GIVEN WITH THE SEED: the statements are not yours to turn. If you find one false, say at which input.
  Laid BY PROGRAM, IN A SANDBOX (cutbox-rows.mjs): the forced cells as the released guide's own fill.sh prints them over the translation 80c6341896a56b71… (all of the seat's roots in one cut). By AI agents, Wed Nov 11 2026. No macro, syntax, notation, axiom, sorry.
-/
import Derived.Test.YtnikgmdpnlfbiaaChecked
import GoSem.Claim
import GoSem.ClaimJoined
import GoSem.ClaimMapViews
import Derived.JoinedTies
import Derived.KernelRfl
namespace Go.Proofs.Ytnikgmdpnlfbiaa
/- THE CELL 'sum', in the pinned program and in every row, IS THE sha256 OF THE DUMP (.gsa) THAT YtnikgmdpnlfbiaaProg.lean LOADS. Nothing in Lean hashes anything: it is a label: what it is worth is what the hold of that sum in a sandbox is worth. -/
noncomputable def Try.pinned : Pinned := { name := "ytnikgmdpnlfbiaa", sum := "80c6341896a56b714dc8d306ae06c9dd2a5d22b547ca36037ed61d95b6469d7d", checked := Try.checked }
namespace Rows
def none {H : Type} : Left H := { results := [], args := [] }

/-- 'stoplinelaw25.CycleTallies': WHATEVER THE INPUT: true; the input reads as it did. -/
def cycleTalliesSpec : ChangeSpec := { name := "cycleTallies", fn := fun _ => fun
  | [d1, d2, d3] => { results := [.lit (.bool true)], args := [d1, d2, d3] }
  | _ => none }
def cycleTalliesRow : OpenClaim := { program := "ytnikgmdpnlfbiaa", sum := "80c6341896a56b714dc8d306ae06c9dd2a5d22b547ca36037ed61d95b6469d7d", func := "stopline/stoplinelaw25.CycleTallies", spec := "cycleTallies", unfollowed := true, recurses := true, apart := false }
def CycleTalliesSaid : Prop := cycleTalliesRow.holds Try.pinned (OpenSpec.ofChange cycleTalliesSpec)

/-- ITS FALSE NEIGHBOUR: 'it returns false'. Refute it at one input. -/
def cycleTalliesWrong : ChangeSpec := { name := "cycleTallies", fn := fun _ => fun
  | [d1, d2, d3] => { results := [.lit (.bool false)], args := [d1, d2, d3] }
  | _ => none }
def CycleTalliesWrongFalsely : Prop := cycleTalliesRow.holds Try.pinned (OpenSpec.ofChange cycleTalliesWrong)

/-- 'stoplinelaw11.PulseHolds': WHATEVER THE INPUT: true; the input reads as it did. -/
def pulseHoldsSpec : ChangeSpec := { name := "pulseHolds", fn := fun _ => fun
  | [d1, d2] => { results := [.lit (.bool true)], args := [d1, d2] }
  | _ => none }
def pulseHoldsRow : OpenClaim := { program := "ytnikgmdpnlfbiaa", sum := "80c6341896a56b714dc8d306ae06c9dd2a5d22b547ca36037ed61d95b6469d7d", func := "stopline/stoplinelaw11.PulseHolds", spec := "pulseHolds", unfollowed := true, recurses := true, apart := false }
def PulseHoldsSaid : Prop := pulseHoldsRow.holds Try.pinned (OpenSpec.ofChange pulseHoldsSpec)

/-- ITS FALSE NEIGHBOUR: 'it returns false'. Refute it at one input. -/
def pulseHoldsWrong : ChangeSpec := { name := "pulseHolds", fn := fun _ => fun
  | [d1, d2] => { results := [.lit (.bool false)], args := [d1, d2] }
  | _ => none }
def PulseHoldsWrongFalsely : Prop := pulseHoldsRow.holds Try.pinned (OpenSpec.ofChange pulseHoldsWrong)

/-- 'stoplinelaw11.PulseApart': WHATEVER THE INPUT: true; the input reads as it did. -/
def pulseApartSpec : ChangeSpec := { name := "pulseApart", fn := fun _ => fun
  | [d1, d2] => { results := [.lit (.bool true)], args := [d1, d2] }
  | _ => none }
def pulseApartRow : OpenClaim := { program := "ytnikgmdpnlfbiaa", sum := "80c6341896a56b714dc8d306ae06c9dd2a5d22b547ca36037ed61d95b6469d7d", func := "stopline/stoplinelaw11.PulseApart", spec := "pulseApart", unfollowed := true, recurses := true, apart := false }
def PulseApartSaid : Prop := pulseApartRow.holds Try.pinned (OpenSpec.ofChange pulseApartSpec)

/-- ITS FALSE NEIGHBOUR: 'it returns false'. Refute it at one input. -/
def pulseApartWrong : ChangeSpec := { name := "pulseApart", fn := fun _ => fun
  | [d1, d2] => { results := [.lit (.bool false)], args := [d1, d2] }
  | _ => none }
def PulseApartWrongFalsely : Prop := pulseApartRow.holds Try.pinned (OpenSpec.ofChange pulseApartWrong)

/-- 'stoplinelaw11.PulseNames': WHATEVER THE INPUT: true; the input reads as it did. -/
def pulseNamesSpec : ChangeSpec := { name := "pulseNames", fn := fun _ => fun
  | [] => { results := [.lit (.bool true)], args := [] }
  | _ => none }
def pulseNamesRow : OpenClaim := { program := "ytnikgmdpnlfbiaa", sum := "80c6341896a56b714dc8d306ae06c9dd2a5d22b547ca36037ed61d95b6469d7d", func := "stopline/stoplinelaw11.PulseNames", spec := "pulseNames", unfollowed := true, recurses := true, apart := false }
def PulseNamesSaid : Prop := pulseNamesRow.holds Try.pinned (OpenSpec.ofChange pulseNamesSpec)

/-- ITS FALSE NEIGHBOUR: 'it returns false'. Refute it at one input. -/
def pulseNamesWrong : ChangeSpec := { name := "pulseNames", fn := fun _ => fun
  | [] => { results := [.lit (.bool false)], args := [] }
  | _ => none }
def PulseNamesWrongFalsely : Prop := pulseNamesRow.holds Try.pinned (OpenSpec.ofChange pulseNamesWrong)

/-- 'stoplinelaw11.PulseRuns': WHATEVER THE INPUT: true; the input reads as it did. -/
def pulseRunsSpec : ChangeSpec := { name := "pulseRuns", fn := fun _ => fun
  | [d1, d2, d3, d4] => { results := [.lit (.bool true)], args := [d1, d2, d3, d4] }
  | _ => none }
def pulseRunsRow : OpenClaim := { program := "ytnikgmdpnlfbiaa", sum := "80c6341896a56b714dc8d306ae06c9dd2a5d22b547ca36037ed61d95b6469d7d", func := "stopline/stoplinelaw11.PulseRuns", spec := "pulseRuns", unfollowed := true, recurses := true, apart := false }
def PulseRunsSaid : Prop := pulseRunsRow.holds Try.pinned (OpenSpec.ofChange pulseRunsSpec)

/-- ITS FALSE NEIGHBOUR: 'it returns false'. Refute it at one input. -/
def pulseRunsWrong : ChangeSpec := { name := "pulseRuns", fn := fun _ => fun
  | [d1, d2, d3, d4] => { results := [.lit (.bool false)], args := [d1, d2, d3, d4] }
  | _ => none }
def PulseRunsWrongFalsely : Prop := pulseRunsRow.holds Try.pinned (OpenSpec.ofChange pulseRunsWrong)

/-- 'stoplinelaw11.PulseParts': WHATEVER THE INPUT: true; the input reads as it did. -/
def pulsePartsSpec : ChangeSpec := { name := "pulseParts", fn := fun _ => fun
  | [d1, d2, d3, d4] => { results := [.lit (.bool true)], args := [d1, d2, d3, d4] }
  | _ => none }
def pulsePartsRow : OpenClaim := { program := "ytnikgmdpnlfbiaa", sum := "80c6341896a56b714dc8d306ae06c9dd2a5d22b547ca36037ed61d95b6469d7d", func := "stopline/stoplinelaw11.PulseParts", spec := "pulseParts", unfollowed := true, recurses := true, apart := false }
def PulsePartsSaid : Prop := pulsePartsRow.holds Try.pinned (OpenSpec.ofChange pulsePartsSpec)

/-- ITS FALSE NEIGHBOUR: 'it returns false'. Refute it at one input. -/
def pulsePartsWrong : ChangeSpec := { name := "pulseParts", fn := fun _ => fun
  | [d1, d2, d3, d4] => { results := [.lit (.bool false)], args := [d1, d2, d3, d4] }
  | _ => none }
def PulsePartsWrongFalsely : Prop := pulsePartsRow.holds Try.pinned (OpenSpec.ofChange pulsePartsWrong)

/- THE SECOND FORM. 'bulk': how many values and letters a reading holds, each counted each time it is reached (what is shared counts as often as it is met; a slice's spare places count too). A statement '..UptoSaid' is the law's where the arguments, and the package variables that the reading takes, are together of bulk at most 1048576: NARROWER than '..Said'. Prove '..Said' where nothing that the law and all that it calls make is longer than what came in: it says more and counts as full. Else prove '..UptoSaid'. A law counts once. -/
mutual
def uptoBulk {H : Type} : DataW H → Nat
  | .lit (.string bytes) => bytes.length + 1
  | .lit _ => 1
  | .nil => 1
  | .ptr d => uptoBulk d + 1
  | .slice elems spare => uptoBulkAll elems + uptoBulkAll spare + 1
  | .agg parts => uptoBulkAll parts + 1
  | .iface _ d => uptoBulk d + 1
  | .map entries => uptoBulkEntries entries + 1
  | .held _ => 1
def uptoBulkAll {H : Type} : List (DataW H) → Nat
  | [] => 0
  | d :: r => uptoBulk d + uptoBulkAll r
def uptoBulkEntries {H : Type} : List (Lit × DataW H) → Nat
  | [] => 0
  | x :: r => uptoBulkEntry x + uptoBulkEntries r
def uptoBulkEntry {H : Type} : Lit × DataW H → Nat
  | (.string bytes, d) => bytes.length + uptoBulk d + 1
  | (_, d) => uptoBulk d + 1
 end
def uptoSmall : (H : Type) → List (DataW H) → Bool := fun _ ds => decide (uptoBulkAll ds ≤ 1048576)
def OpenSpec.upto (s : _root_.Go.ChangeSpec) : _root_.Go.OpenSpec := { _root_.Go.OpenSpec.ofChange s with cond := some uptoSmall }

/-- 'stoplinelaw25.CycleTallies', WHERE WHAT IT READS IS OF BULK AT MOST 1048576: true; the input reads as it did. -/
def cycleTalliesUptoRow : OpenClaim := { program := "ytnikgmdpnlfbiaa", sum := "80c6341896a56b714dc8d306ae06c9dd2a5d22b547ca36037ed61d95b6469d7d", func := "stopline/stoplinelaw25.CycleTallies", spec := "cycleTallies", unfollowed := true, recurses := true, apart := false, narrowed := true }
def CycleTalliesUptoSaid : Prop := cycleTalliesUptoRow.holds Try.pinned (OpenSpec.upto cycleTalliesSpec)

/-- 'stoplinelaw11.PulseHolds', WHERE WHAT IT READS IS OF BULK AT MOST 1048576: true; the input reads as it did. -/
def pulseHoldsUptoRow : OpenClaim := { program := "ytnikgmdpnlfbiaa", sum := "80c6341896a56b714dc8d306ae06c9dd2a5d22b547ca36037ed61d95b6469d7d", func := "stopline/stoplinelaw11.PulseHolds", spec := "pulseHolds", unfollowed := true, recurses := true, apart := false, narrowed := true }
def PulseHoldsUptoSaid : Prop := pulseHoldsUptoRow.holds Try.pinned (OpenSpec.upto pulseHoldsSpec)

/-- 'stoplinelaw11.PulseApart', WHERE WHAT IT READS IS OF BULK AT MOST 1048576: true; the input reads as it did. -/
def pulseApartUptoRow : OpenClaim := { program := "ytnikgmdpnlfbiaa", sum := "80c6341896a56b714dc8d306ae06c9dd2a5d22b547ca36037ed61d95b6469d7d", func := "stopline/stoplinelaw11.PulseApart", spec := "pulseApart", unfollowed := true, recurses := true, apart := false, narrowed := true }
def PulseApartUptoSaid : Prop := pulseApartUptoRow.holds Try.pinned (OpenSpec.upto pulseApartSpec)

/-- 'stoplinelaw11.PulseNames', WHERE WHAT IT READS IS OF BULK AT MOST 1048576: true; the input reads as it did. -/
def pulseNamesUptoRow : OpenClaim := { program := "ytnikgmdpnlfbiaa", sum := "80c6341896a56b714dc8d306ae06c9dd2a5d22b547ca36037ed61d95b6469d7d", func := "stopline/stoplinelaw11.PulseNames", spec := "pulseNames", unfollowed := true, recurses := true, apart := false, narrowed := true }
def PulseNamesUptoSaid : Prop := pulseNamesUptoRow.holds Try.pinned (OpenSpec.upto pulseNamesSpec)

/-- 'stoplinelaw11.PulseRuns', WHERE WHAT IT READS IS OF BULK AT MOST 1048576: true; the input reads as it did. -/
def pulseRunsUptoRow : OpenClaim := { program := "ytnikgmdpnlfbiaa", sum := "80c6341896a56b714dc8d306ae06c9dd2a5d22b547ca36037ed61d95b6469d7d", func := "stopline/stoplinelaw11.PulseRuns", spec := "pulseRuns", unfollowed := true, recurses := true, apart := false, narrowed := true }
def PulseRunsUptoSaid : Prop := pulseRunsUptoRow.holds Try.pinned (OpenSpec.upto pulseRunsSpec)

/-- 'stoplinelaw11.PulseParts', WHERE WHAT IT READS IS OF BULK AT MOST 1048576: true; the input reads as it did. -/
def pulsePartsUptoRow : OpenClaim := { program := "ytnikgmdpnlfbiaa", sum := "80c6341896a56b714dc8d306ae06c9dd2a5d22b547ca36037ed61d95b6469d7d", func := "stopline/stoplinelaw11.PulseParts", spec := "pulseParts", unfollowed := true, recurses := true, apart := false, narrowed := true }
def PulsePartsUptoSaid : Prop := pulsePartsUptoRow.holds Try.pinned (OpenSpec.upto pulsePartsSpec)

end Rows
end Go.Proofs.Ytnikgmdpnlfbiaa
