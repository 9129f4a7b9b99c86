/-
  No cell of these rows narrows 'for every input' (looked for: loops, veiled, ifaces, maps, wideKeys, modest, calm, conditions, laid).
  DERIVED. THE GIVEN ROWS OF THIS SEAT. 10 by the template 'for every input the law returns true; each argument reads behind the call as it read before'; 0 by the template 'total and deterministic' (their statements: YtpcjlhhhmjgffaaTotals.lean).
  GIVEN WITH THE SEED: the statements are not yours to turn. If you find one false, say at which input.
  Laid BY PROGRAM, IN A SANDBOX (cutbox-rows.mjs): the forced cells as the released guide's own fill.sh prints them over the translation 2104146ffebb09fc… (all of the seat's roots in one cut). By AI agents, Wed Nov 11 2026. No macro, syntax, notation, axiom, sorry.
-/
import Derived.Test.YtpcjlhhhmjgffaaChecked
import GoSem.Claim
import GoSem.ClaimJoined
import GoSem.ClaimMapViews
import Derived.JoinedTies
import Derived.KernelRfl
namespace Go.Proofs.Ytpcjlhhhmjgffaa
/- THE CELL 'sum', in the pinned program and in every row, IS THE sha256 OF THE DUMP (.gsa) THAT YtpcjlhhhmjgffaaProg.lean LOADS. Nothing in Lean hashes anything: it is a label: what it is worth is what the hold of that sum in a sandbox is worth. -/
noncomputable def Try.pinned : Pinned := { name := "ytpcjlhhhmjgffaa", sum := "2104146ffebb09fca04c6eb9ebe0afdad74ba852948e373fbce3a316b0ae50aa", checked := Try.checked }
namespace Rows
def none {H : Type} : Left H := { results := [], args := [] }

/-- 'cadencelaw5.LinesJoin': WHATEVER THE INPUT: true; the input reads as it did. -/
def linesJoinSpec : ChangeSpec := { name := "linesJoin", fn := fun _ => fun
  | [d1, d2] => { results := [.lit (.bool true)], args := [d1, d2] }
  | _ => none }
def linesJoinRow : OpenClaim := { program := "ytpcjlhhhmjgffaa", sum := "2104146ffebb09fca04c6eb9ebe0afdad74ba852948e373fbce3a316b0ae50aa", func := "cadence/cadencelaw5.LinesJoin", spec := "linesJoin", inPlace := ["internal/bytealg.IndexByteString", "internal/abi.NoEscape"], apart := false }
def LinesJoinSaid : Prop := linesJoinRow.holds Try.pinned (OpenSpec.ofChange linesJoinSpec)

/-- ITS FALSE NEIGHBOUR: 'it returns false'. Refute it at one input. -/
def linesJoinWrong : ChangeSpec := { name := "linesJoin", fn := fun _ => fun
  | [d1, d2] => { results := [.lit (.bool false)], args := [d1, d2] }
  | _ => none }
def LinesJoinWrongFalsely : Prop := linesJoinRow.holds Try.pinned (OpenSpec.ofChange linesJoinWrong)

/-- 'cadencelaw5.LinesSplit': WHATEVER THE INPUT: true; the input reads as it did. -/
def linesSplitSpec : ChangeSpec := { name := "linesSplit", fn := fun _ => fun
  | [d1, d2] => { results := [.lit (.bool true)], args := [d1, d2] }
  | _ => none }
def linesSplitRow : OpenClaim := { program := "ytpcjlhhhmjgffaa", sum := "2104146ffebb09fca04c6eb9ebe0afdad74ba852948e373fbce3a316b0ae50aa", func := "cadence/cadencelaw5.LinesSplit", spec := "linesSplit", inPlace := ["internal/bytealg.IndexByteString", "internal/abi.NoEscape"], apart := false }
def LinesSplitSaid : Prop := linesSplitRow.holds Try.pinned (OpenSpec.ofChange linesSplitSpec)

/-- ITS FALSE NEIGHBOUR: 'it returns false'. Refute it at one input. -/
def linesSplitWrong : ChangeSpec := { name := "linesSplit", fn := fun _ => fun
  | [d1, d2] => { results := [.lit (.bool false)], args := [d1, d2] }
  | _ => none }
def LinesSplitWrongFalsely : Prop := linesSplitRow.holds Try.pinned (OpenSpec.ofChange linesSplitWrong)

/-- 'cadencelaw5.LinesKnown': WHATEVER THE INPUT: true; the input reads as it did. -/
def linesKnownSpec : ChangeSpec := { name := "linesKnown", fn := fun _ => fun
  | [d] => { results := [.lit (.bool true)], args := [d] }
  | _ => none }
def linesKnownRow : OpenClaim := { program := "ytpcjlhhhmjgffaa", sum := "2104146ffebb09fca04c6eb9ebe0afdad74ba852948e373fbce3a316b0ae50aa", func := "cadence/cadencelaw5.LinesKnown", spec := "linesKnown", inPlace := ["internal/bytealg.IndexByteString", "internal/abi.NoEscape"], apart := false }
def LinesKnownSaid : Prop := linesKnownRow.holds Try.pinned (OpenSpec.ofChange linesKnownSpec)

/-- ITS FALSE NEIGHBOUR: 'it returns false'. Refute it at one input. -/
def linesKnownWrong : ChangeSpec := { name := "linesKnown", fn := fun _ => fun
  | [d] => { results := [.lit (.bool false)], args := [d] }
  | _ => none }
def LinesKnownWrongFalsely : Prop := linesKnownRow.holds Try.pinned (OpenSpec.ofChange linesKnownWrong)

/-- 'cadencelaw5.LinesNone': WHATEVER THE INPUT: true; the input reads as it did. -/
def linesNoneSpec : ChangeSpec := { name := "linesNone", fn := fun _ => fun
  | [d1, d2, d3] => { results := [.lit (.bool true)], args := [d1, d2, d3] }
  | _ => none }
def linesNoneRow : OpenClaim := { program := "ytpcjlhhhmjgffaa", sum := "2104146ffebb09fca04c6eb9ebe0afdad74ba852948e373fbce3a316b0ae50aa", func := "cadence/cadencelaw5.LinesNone", spec := "linesNone", inPlace := ["internal/bytealg.IndexByteString"], apart := false }
def LinesNoneSaid : Prop := linesNoneRow.holds Try.pinned (OpenSpec.ofChange linesNoneSpec)

/-- ITS FALSE NEIGHBOUR: 'it returns false'. Refute it at one input. -/
def linesNoneWrong : ChangeSpec := { name := "linesNone", fn := fun _ => fun
  | [d1, d2, d3] => { results := [.lit (.bool false)], args := [d1, d2, d3] }
  | _ => none }
def LinesNoneWrongFalsely : Prop := linesNoneRow.holds Try.pinned (OpenSpec.ofChange linesNoneWrong)

/-- 'cadencelaw5.LinesParts': WHATEVER THE INPUT: true; the input reads as it did. -/
def linesPartsSpec : ChangeSpec := { name := "linesParts", fn := fun _ => fun
  | [d1, d2, d3] => { results := [.lit (.bool true)], args := [d1, d2, d3] }
  | _ => none }
def linesPartsRow : OpenClaim := { program := "ytpcjlhhhmjgffaa", sum := "2104146ffebb09fca04c6eb9ebe0afdad74ba852948e373fbce3a316b0ae50aa", func := "cadence/cadencelaw5.LinesParts", spec := "linesParts", inPlace := ["internal/bytealg.IndexByteString", "internal/abi.NoEscape"], apart := false }
def LinesPartsSaid : Prop := linesPartsRow.holds Try.pinned (OpenSpec.ofChange linesPartsSpec)

/-- ITS FALSE NEIGHBOUR: 'it returns false'. Refute it at one input. -/
def linesPartsWrong : ChangeSpec := { name := "linesParts", fn := fun _ => fun
  | [d1, d2, d3] => { results := [.lit (.bool false)], args := [d1, d2, d3] }
  | _ => none }
def LinesPartsWrongFalsely : Prop := linesPartsRow.holds Try.pinned (OpenSpec.ofChange linesPartsWrong)

/-- 'cadencelaw14.ReportUnlike': WHATEVER THE INPUT: true; the input reads as it did. -/
def reportUnlikeSpec : ChangeSpec := { name := "reportUnlike", fn := fun _ => fun
  | [d1, d2, d3] => { results := [.lit (.bool true)], args := [d1, d2, d3] }
  | _ => none }
def reportUnlikeRow : OpenClaim := { program := "ytpcjlhhhmjgffaa", sum := "2104146ffebb09fca04c6eb9ebe0afdad74ba852948e373fbce3a316b0ae50aa", func := "cadence/cadencelaw14.ReportUnlike", spec := "reportUnlike", inPlace := ["internal/abi.NoEscape", "internal/bytealg.MakeNoZero"], recurses := true, apart := false }
def ReportUnlikeSaid : Prop := reportUnlikeRow.holds Try.pinned (OpenSpec.ofChange reportUnlikeSpec)

/-- ITS FALSE NEIGHBOUR: 'it returns false'. Refute it at one input. -/
def reportUnlikeWrong : ChangeSpec := { name := "reportUnlike", fn := fun _ => fun
  | [d1, d2, d3] => { results := [.lit (.bool false)], args := [d1, d2, d3] }
  | _ => none }
def ReportUnlikeWrongFalsely : Prop := reportUnlikeRow.holds Try.pinned (OpenSpec.ofChange reportUnlikeWrong)

/-- 'cadencelaw14.ReportTexts': WHATEVER THE INPUT: true; the input reads as it did. -/
def reportTextsSpec : ChangeSpec := { name := "reportTexts", fn := fun _ => fun
  | [d1, d2] => { results := [.lit (.bool true)], args := [d1, d2] }
  | _ => none }
def reportTextsRow : OpenClaim := { program := "ytpcjlhhhmjgffaa", sum := "2104146ffebb09fca04c6eb9ebe0afdad74ba852948e373fbce3a316b0ae50aa", func := "cadence/cadencelaw14.ReportTexts", spec := "reportTexts", inPlace := ["internal/abi.NoEscape", "internal/bytealg.MakeNoZero"], recurses := true, apart := false }
def ReportTextsSaid : Prop := reportTextsRow.holds Try.pinned (OpenSpec.ofChange reportTextsSpec)

/-- ITS FALSE NEIGHBOUR: 'it returns false'. Refute it at one input. -/
def reportTextsWrong : ChangeSpec := { name := "reportTexts", fn := fun _ => fun
  | [d1, d2] => { results := [.lit (.bool false)], args := [d1, d2] }
  | _ => none }
def ReportTextsWrongFalsely : Prop := reportTextsRow.holds Try.pinned (OpenSpec.ofChange reportTextsWrong)

/-- 'cadencelaw14.ReportPaths': WHATEVER THE INPUT: true; the input reads as it did. -/
def reportPathsSpec : ChangeSpec := { name := "reportPaths", fn := fun _ => fun
  | [d] => { results := [.lit (.bool true)], args := [d] }
  | _ => none }
def reportPathsRow : OpenClaim := { program := "ytpcjlhhhmjgffaa", sum := "2104146ffebb09fca04c6eb9ebe0afdad74ba852948e373fbce3a316b0ae50aa", func := "cadence/cadencelaw14.ReportPaths", spec := "reportPaths", inPlace := ["internal/abi.NoEscape", "internal/bytealg.MakeNoZero", "internal/bytealg.IndexByteString"], recurses := true, apart := false }
def ReportPathsSaid : Prop := reportPathsRow.holds Try.pinned (OpenSpec.ofChange reportPathsSpec)

/-- ITS FALSE NEIGHBOUR: 'it returns false'. Refute it at one input. -/
def reportPathsWrong : ChangeSpec := { name := "reportPaths", fn := fun _ => fun
  | [d] => { results := [.lit (.bool false)], args := [d] }
  | _ => none }
def ReportPathsWrongFalsely : Prop := reportPathsRow.holds Try.pinned (OpenSpec.ofChange reportPathsWrong)

/-- 'cadencelaw14.ReportReads': WHATEVER THE INPUT: true; the input reads as it did. -/
def reportReadsSpec : ChangeSpec := { name := "reportReads", fn := fun _ => fun
  | [d1, d2, d3, d4, d5] => { results := [.lit (.bool true)], args := [d1, d2, d3, d4, d5] }
  | _ => none }
def reportReadsRow : OpenClaim := { program := "ytpcjlhhhmjgffaa", sum := "2104146ffebb09fca04c6eb9ebe0afdad74ba852948e373fbce3a316b0ae50aa", func := "cadence/cadencelaw14.ReportReads", spec := "reportReads", inPlace := ["internal/abi.NoEscape", "internal/bytealg.MakeNoZero", "internal/bytealg.IndexByteString"], recurses := true, apart := false }
def ReportReadsSaid : Prop := reportReadsRow.holds Try.pinned (OpenSpec.ofChange reportReadsSpec)

/-- ITS FALSE NEIGHBOUR: 'it returns false'. Refute it at one input. -/
def reportReadsWrong : ChangeSpec := { name := "reportReads", fn := fun _ => fun
  | [d1, d2, d3, d4, d5] => { results := [.lit (.bool false)], args := [d1, d2, d3, d4, d5] }
  | _ => none }
def ReportReadsWrongFalsely : Prop := reportReadsRow.holds Try.pinned (OpenSpec.ofChange reportReadsWrong)

/-- 'cadencelaw14.ReportLong': WHATEVER THE INPUT: true; the input reads as it did. -/
def reportLongSpec : ChangeSpec := { name := "reportLong", fn := fun _ => fun
  | [d1, d2] => { results := [.lit (.bool true)], args := [d1, d2] }
  | _ => none }
def reportLongRow : OpenClaim := { program := "ytpcjlhhhmjgffaa", sum := "2104146ffebb09fca04c6eb9ebe0afdad74ba852948e373fbce3a316b0ae50aa", func := "cadence/cadencelaw14.ReportLong", spec := "reportLong", inPlace := ["internal/abi.NoEscape", "internal/bytealg.MakeNoZero", "internal/bytealg.IndexByteString"], recurses := true, apart := false }
def ReportLongSaid : Prop := reportLongRow.holds Try.pinned (OpenSpec.ofChange reportLongSpec)

/-- ITS FALSE NEIGHBOUR: 'it returns false'. Refute it at one input. -/
def reportLongWrong : ChangeSpec := { name := "reportLong", fn := fun _ => fun
  | [d1, d2] => { results := [.lit (.bool false)], args := [d1, d2] }
  | _ => none }
def ReportLongWrongFalsely : Prop := reportLongRow.holds Try.pinned (OpenSpec.ofChange reportLongWrong)

/- THE SECOND FORM. 'bulk': how many values and letters a reading holds, each counted each time it is reached (what is shared counts as often as it is met; a slice's spare places count too). A statement '..UptoSaid' is the law's where the arguments, and the package variables that the reading takes, are together of bulk at most 1048576: NARROWER than '..Said'. Prove '..Said' where nothing that the law and all that it calls make is longer than what came in: it says more and counts as full. Else prove '..UptoSaid'. A law counts once. -/
mutual
def uptoBulk {H : Type} : DataW H → Nat
  | .lit (.string bytes) => bytes.length + 1
  | .lit _ => 1
  | .nil => 1
  | .ptr d => uptoBulk d + 1
  | .slice elems spare => uptoBulkAll elems + uptoBulkAll spare + 1
  | .agg parts => uptoBulkAll parts + 1
  | .iface _ d => uptoBulk d + 1
  | .map entries => uptoBulkEntries entries + 1
  | .held _ => 1
def uptoBulkAll {H : Type} : List (DataW H) → Nat
  | [] => 0
  | d :: r => uptoBulk d + uptoBulkAll r
def uptoBulkEntries {H : Type} : List (Lit × DataW H) → Nat
  | [] => 0
  | x :: r => uptoBulkEntry x + uptoBulkEntries r
def uptoBulkEntry {H : Type} : Lit × DataW H → Nat
  | (.string bytes, d) => bytes.length + uptoBulk d + 1
  | (_, d) => uptoBulk d + 1
 end
def uptoSmall : (H : Type) → List (DataW H) → Bool := fun _ ds => decide (uptoBulkAll ds ≤ 1048576)
def OpenSpec.upto (s : _root_.Go.ChangeSpec) : _root_.Go.OpenSpec := { _root_.Go.OpenSpec.ofChange s with cond := some uptoSmall }

/-- 'cadencelaw5.LinesJoin', WHERE WHAT IT READS IS OF BULK AT MOST 1048576: true; the input reads as it did. -/
def linesJoinUptoRow : OpenClaim := { program := "ytpcjlhhhmjgffaa", sum := "2104146ffebb09fca04c6eb9ebe0afdad74ba852948e373fbce3a316b0ae50aa", func := "cadence/cadencelaw5.LinesJoin", spec := "linesJoin", inPlace := ["internal/bytealg.IndexByteString", "internal/abi.NoEscape"], apart := false, narrowed := true }
def LinesJoinUptoSaid : Prop := linesJoinUptoRow.holds Try.pinned (OpenSpec.upto linesJoinSpec)

/-- 'cadencelaw5.LinesSplit', WHERE WHAT IT READS IS OF BULK AT MOST 1048576: true; the input reads as it did. -/
def linesSplitUptoRow : OpenClaim := { program := "ytpcjlhhhmjgffaa", sum := "2104146ffebb09fca04c6eb9ebe0afdad74ba852948e373fbce3a316b0ae50aa", func := "cadence/cadencelaw5.LinesSplit", spec := "linesSplit", inPlace := ["internal/bytealg.IndexByteString", "internal/abi.NoEscape"], apart := false, narrowed := true }
def LinesSplitUptoSaid : Prop := linesSplitUptoRow.holds Try.pinned (OpenSpec.upto linesSplitSpec)

/-- 'cadencelaw5.LinesKnown', WHERE WHAT IT READS IS OF BULK AT MOST 1048576: true; the input reads as it did. -/
def linesKnownUptoRow : OpenClaim := { program := "ytpcjlhhhmjgffaa", sum := "2104146ffebb09fca04c6eb9ebe0afdad74ba852948e373fbce3a316b0ae50aa", func := "cadence/cadencelaw5.LinesKnown", spec := "linesKnown", inPlace := ["internal/bytealg.IndexByteString", "internal/abi.NoEscape"], apart := false, narrowed := true }
def LinesKnownUptoSaid : Prop := linesKnownUptoRow.holds Try.pinned (OpenSpec.upto linesKnownSpec)

/-- 'cadencelaw5.LinesNone', WHERE WHAT IT READS IS OF BULK AT MOST 1048576: true; the input reads as it did. -/
def linesNoneUptoRow : OpenClaim := { program := "ytpcjlhhhmjgffaa", sum := "2104146ffebb09fca04c6eb9ebe0afdad74ba852948e373fbce3a316b0ae50aa", func := "cadence/cadencelaw5.LinesNone", spec := "linesNone", inPlace := ["internal/bytealg.IndexByteString"], apart := false, narrowed := true }
def LinesNoneUptoSaid : Prop := linesNoneUptoRow.holds Try.pinned (OpenSpec.upto linesNoneSpec)

/-- 'cadencelaw5.LinesParts', WHERE WHAT IT READS IS OF BULK AT MOST 1048576: true; the input reads as it did. -/
def linesPartsUptoRow : OpenClaim := { program := "ytpcjlhhhmjgffaa", sum := "2104146ffebb09fca04c6eb9ebe0afdad74ba852948e373fbce3a316b0ae50aa", func := "cadence/cadencelaw5.LinesParts", spec := "linesParts", inPlace := ["internal/bytealg.IndexByteString", "internal/abi.NoEscape"], apart := false, narrowed := true }
def LinesPartsUptoSaid : Prop := linesPartsUptoRow.holds Try.pinned (OpenSpec.upto linesPartsSpec)

/-- 'cadencelaw14.ReportUnlike', WHERE WHAT IT READS IS OF BULK AT MOST 1048576: true; the input reads as it did. -/
def reportUnlikeUptoRow : OpenClaim := { program := "ytpcjlhhhmjgffaa", sum := "2104146ffebb09fca04c6eb9ebe0afdad74ba852948e373fbce3a316b0ae50aa", func := "cadence/cadencelaw14.ReportUnlike", spec := "reportUnlike", inPlace := ["internal/abi.NoEscape", "internal/bytealg.MakeNoZero"], recurses := true, apart := false, narrowed := true }
def ReportUnlikeUptoSaid : Prop := reportUnlikeUptoRow.holds Try.pinned (OpenSpec.upto reportUnlikeSpec)

/-- 'cadencelaw14.ReportTexts', WHERE WHAT IT READS IS OF BULK AT MOST 1048576: true; the input reads as it did. -/
def reportTextsUptoRow : OpenClaim := { program := "ytpcjlhhhmjgffaa", sum := "2104146ffebb09fca04c6eb9ebe0afdad74ba852948e373fbce3a316b0ae50aa", func := "cadence/cadencelaw14.ReportTexts", spec := "reportTexts", inPlace := ["internal/abi.NoEscape", "internal/bytealg.MakeNoZero"], recurses := true, apart := false, narrowed := true }
def ReportTextsUptoSaid : Prop := reportTextsUptoRow.holds Try.pinned (OpenSpec.upto reportTextsSpec)

/-- 'cadencelaw14.ReportPaths', WHERE WHAT IT READS IS OF BULK AT MOST 1048576: true; the input reads as it did. -/
def reportPathsUptoRow : OpenClaim := { program := "ytpcjlhhhmjgffaa", sum := "2104146ffebb09fca04c6eb9ebe0afdad74ba852948e373fbce3a316b0ae50aa", func := "cadence/cadencelaw14.ReportPaths", spec := "reportPaths", inPlace := ["internal/abi.NoEscape", "internal/bytealg.MakeNoZero", "internal/bytealg.IndexByteString"], recurses := true, apart := false, narrowed := true }
def ReportPathsUptoSaid : Prop := reportPathsUptoRow.holds Try.pinned (OpenSpec.upto reportPathsSpec)

/-- 'cadencelaw14.ReportReads', WHERE WHAT IT READS IS OF BULK AT MOST 1048576: true; the input reads as it did. -/
def reportReadsUptoRow : OpenClaim := { program := "ytpcjlhhhmjgffaa", sum := "2104146ffebb09fca04c6eb9ebe0afdad74ba852948e373fbce3a316b0ae50aa", func := "cadence/cadencelaw14.ReportReads", spec := "reportReads", inPlace := ["internal/abi.NoEscape", "internal/bytealg.MakeNoZero", "internal/bytealg.IndexByteString"], recurses := true, apart := false, narrowed := true }
def ReportReadsUptoSaid : Prop := reportReadsUptoRow.holds Try.pinned (OpenSpec.upto reportReadsSpec)

/-- 'cadencelaw14.ReportLong', WHERE WHAT IT READS IS OF BULK AT MOST 1048576: true; the input reads as it did. -/
def reportLongUptoRow : OpenClaim := { program := "ytpcjlhhhmjgffaa", sum := "2104146ffebb09fca04c6eb9ebe0afdad74ba852948e373fbce3a316b0ae50aa", func := "cadence/cadencelaw14.ReportLong", spec := "reportLong", inPlace := ["internal/abi.NoEscape", "internal/bytealg.MakeNoZero", "internal/bytealg.IndexByteString"], recurses := true, apart := false, narrowed := true }
def ReportLongUptoSaid : Prop := reportLongUptoRow.holds Try.pinned (OpenSpec.upto reportLongSpec)

end Rows
end Go.Proofs.Ytpcjlhhhmjgffaa
