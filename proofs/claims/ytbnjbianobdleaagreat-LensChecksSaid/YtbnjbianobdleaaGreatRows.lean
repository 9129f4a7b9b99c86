/-
  NARROWER THAN 'FOR EVERY INPUT', by the rows' own cells (each row's printed sentence says how): LensChecks: loops · LensFilter: loops · LensMap: loops.
  DERIVED. THE GIVEN ROWS OF THIS SEAT. 4 by the template 'for every input the law returns true; each argument reads behind the call as it read before'; 0 by the template 'total and deterministic' (their statements: YtbnjbianobdleaaGreatTotals.lean).
  GIVEN WITH THE SEED: the statements are not yours to turn. If you find one false, say at which input.
  Laid BY PROGRAM, IN A SANDBOX (cutbox-rows.mjs): the forced cells as the released guide's own fill.sh prints them over the translation 3a42a332c68e431d… (all of the seat's roots in one cut). By AI agents, Wed Nov 11 2026. No macro, syntax, notation, axiom, sorry.
-/
import Derived.Test.YtbnjbianobdleaaGreatChecked
import GoSem.Claim
import GoSem.ClaimJoined
import GoSem.ClaimMapViews
import Derived.JoinedTies
import Derived.KernelRfl
namespace Go.Proofs.YtbnjbianobdleaaGreat
/- THE CELL 'sum', in the pinned program and in every row, IS THE sha256 OF THE DUMP (.gsa) THAT YtbnjbianobdleaaGreatProg.lean LOADS. Nothing in Lean hashes anything: it is a label: what it is worth is what the hold of that sum in a sandbox is worth. -/
noncomputable def Tryz.pinned : Pinned := { name := "ytbnjbianobdleaagreat", sum := "3a42a332c68e431d8e91b9f46aa3f599978f425b15b38f9518a847c684b07e47", checked := Tryz.checked }
namespace Rows
def none {H : Type} : Left H := { results := [], args := [] }

/-- 'cadencelaw11.LensChecks': WHATEVER THE INPUT: true; the input reads as it did. -/
def lensChecksSpec : ChangeSpec := { name := "lensChecks", fn := fun _ => fun
  | [d1, d2, d3] => { results := [.lit (.bool true)], args := [d1, d2, d3] }
  | _ => none }
def lensChecksRow : OpenClaim := { program := "ytbnjbianobdleaagreat", sum := "3a42a332c68e431d8e91b9f46aa3f599978f425b15b38f9518a847c684b07e47", func := "cadence/cadencelaw11.LensChecks", spec := "lensChecks", inPlace := ["internal/bytealg.abigen_runtime_cmpstring", "slices.overlaps[cadence/api.Edge]"], unfollowed := true, recurses := true, loops := true, apart := false }
def LensChecksSaid : Prop := lensChecksRow.holds Tryz.pinned (OpenSpec.ofChange lensChecksSpec)

/-- ITS FALSE NEIGHBOUR: 'it returns false'. Refute it at one input. -/
def lensChecksWrong : ChangeSpec := { name := "lensChecks", fn := fun _ => fun
  | [d1, d2, d3] => { results := [.lit (.bool false)], args := [d1, d2, d3] }
  | _ => none }
def LensChecksWrongFalsely : Prop := lensChecksRow.holds Tryz.pinned (OpenSpec.ofChange lensChecksWrong)

/-- 'cadencelaw11.LensFilter': WHATEVER THE INPUT: true; the input reads as it did. -/
def lensFilterSpec : ChangeSpec := { name := "lensFilter", fn := fun _ => fun
  | [d1, d2, d3] => { results := [.lit (.bool true)], args := [d1, d2, d3] }
  | _ => none }
def lensFilterRow : OpenClaim := { program := "ytbnjbianobdleaagreat", sum := "3a42a332c68e431d8e91b9f46aa3f599978f425b15b38f9518a847c684b07e47", func := "cadence/cadencelaw11.LensFilter", spec := "lensFilter", inPlace := ["internal/bytealg.abigen_runtime_cmpstring", "slices.overlaps[cadence/api.Edge]"], unfollowed := true, recurses := true, loops := true, apart := false }
def LensFilterSaid : Prop := lensFilterRow.holds Tryz.pinned (OpenSpec.ofChange lensFilterSpec)

/-- ITS FALSE NEIGHBOUR: 'it returns false'. Refute it at one input. -/
def lensFilterWrong : ChangeSpec := { name := "lensFilter", fn := fun _ => fun
  | [d1, d2, d3] => { results := [.lit (.bool false)], args := [d1, d2, d3] }
  | _ => none }
def LensFilterWrongFalsely : Prop := lensFilterRow.holds Tryz.pinned (OpenSpec.ofChange lensFilterWrong)

/-- 'cadencelaw11.LensMap': WHATEVER THE INPUT: true; the input reads as it did. -/
def lensMapSpec : ChangeSpec := { name := "lensMap", fn := fun _ => fun
  | [d1, d2, d3] => { results := [.lit (.bool true)], args := [d1, d2, d3] }
  | _ => none }
def lensMapRow : OpenClaim := { program := "ytbnjbianobdleaagreat", sum := "3a42a332c68e431d8e91b9f46aa3f599978f425b15b38f9518a847c684b07e47", func := "cadence/cadencelaw11.LensMap", spec := "lensMap", inPlace := ["internal/bytealg.abigen_runtime_cmpstring", "slices.overlaps[cadence/api.Edge]"], unfollowed := true, recurses := true, loops := true, apart := false }
def LensMapSaid : Prop := lensMapRow.holds Tryz.pinned (OpenSpec.ofChange lensMapSpec)

/-- ITS FALSE NEIGHBOUR: 'it returns false'. Refute it at one input. -/
def lensMapWrong : ChangeSpec := { name := "lensMap", fn := fun _ => fun
  | [d1, d2, d3] => { results := [.lit (.bool false)], args := [d1, d2, d3] }
  | _ => none }
def LensMapWrongFalsely : Prop := lensMapRow.holds Tryz.pinned (OpenSpec.ofChange lensMapWrong)

/-- 'cadencelaw11.LensKnown': WHATEVER THE INPUT: true; the input reads as it did. -/
def lensKnownSpec : ChangeSpec := { name := "lensKnown", fn := fun _ => fun
  | [d] => { results := [.lit (.bool true)], args := [d] }
  | _ => none }
def lensKnownRow : OpenClaim := { program := "ytbnjbianobdleaagreat", sum := "3a42a332c68e431d8e91b9f46aa3f599978f425b15b38f9518a847c684b07e47", func := "cadence/cadencelaw11.LensKnown", spec := "lensKnown", inPlace := ["internal/bytealg.abigen_runtime_cmpstring", "slices.overlaps[cadence/api.Edge]"], unfollowed := true, recurses := true, apart := false }
def LensKnownSaid : Prop := lensKnownRow.holds Tryz.pinned (OpenSpec.ofChange lensKnownSpec)

/-- ITS FALSE NEIGHBOUR: 'it returns false'. Refute it at one input. -/
def lensKnownWrong : ChangeSpec := { name := "lensKnown", fn := fun _ => fun
  | [d] => { results := [.lit (.bool false)], args := [d] }
  | _ => none }
def LensKnownWrongFalsely : Prop := lensKnownRow.holds Tryz.pinned (OpenSpec.ofChange lensKnownWrong)

/- THE SECOND FORM. 'bulk': how many values and letters a reading holds, each counted each time it is reached (what is shared counts as often as it is met; a slice's spare places count too). A statement '..UptoSaid' is the law's where the arguments, and the package variables that the reading takes, are together of bulk at most 1048576: NARROWER than '..Said'. Prove '..Said' where nothing that the law and all that it calls make is longer than what came in: it says more and counts as full. Else prove '..UptoSaid'. A law counts once. -/
mutual
def uptoBulk {H : Type} : DataW H → Nat
  | .lit (.string bytes) => bytes.length + 1
  | .lit _ => 1
  | .nil => 1
  | .ptr d => uptoBulk d + 1
  | .slice elems spare => uptoBulkAll elems + uptoBulkAll spare + 1
  | .agg parts => uptoBulkAll parts + 1
  | .iface _ d => uptoBulk d + 1
  | .map entries => uptoBulkEntries entries + 1
  | .held _ => 1
def uptoBulkAll {H : Type} : List (DataW H) → Nat
  | [] => 0
  | d :: r => uptoBulk d + uptoBulkAll r
def uptoBulkEntries {H : Type} : List (Lit × DataW H) → Nat
  | [] => 0
  | x :: r => uptoBulkEntry x + uptoBulkEntries r
def uptoBulkEntry {H : Type} : Lit × DataW H → Nat
  | (.string bytes, d) => bytes.length + uptoBulk d + 1
  | (_, d) => uptoBulk d + 1
 end
def uptoSmall : (H : Type) → List (DataW H) → Bool := fun _ ds => decide (uptoBulkAll ds ≤ 1048576)
def OpenSpec.upto (s : _root_.Go.ChangeSpec) : _root_.Go.OpenSpec := { _root_.Go.OpenSpec.ofChange s with cond := some uptoSmall }

/-- 'cadencelaw11.LensChecks', WHERE WHAT IT READS IS OF BULK AT MOST 1048576: true; the input reads as it did. -/
def lensChecksUptoRow : OpenClaim := { program := "ytbnjbianobdleaagreat", sum := "3a42a332c68e431d8e91b9f46aa3f599978f425b15b38f9518a847c684b07e47", func := "cadence/cadencelaw11.LensChecks", spec := "lensChecks", inPlace := ["internal/bytealg.abigen_runtime_cmpstring", "slices.overlaps[cadence/api.Edge]"], unfollowed := true, recurses := true, loops := true, apart := false, narrowed := true }
def LensChecksUptoSaid : Prop := lensChecksUptoRow.holds Tryz.pinned (OpenSpec.upto lensChecksSpec)

/-- 'cadencelaw11.LensFilter', WHERE WHAT IT READS IS OF BULK AT MOST 1048576: true; the input reads as it did. -/
def lensFilterUptoRow : OpenClaim := { program := "ytbnjbianobdleaagreat", sum := "3a42a332c68e431d8e91b9f46aa3f599978f425b15b38f9518a847c684b07e47", func := "cadence/cadencelaw11.LensFilter", spec := "lensFilter", inPlace := ["internal/bytealg.abigen_runtime_cmpstring", "slices.overlaps[cadence/api.Edge]"], unfollowed := true, recurses := true, loops := true, apart := false, narrowed := true }
def LensFilterUptoSaid : Prop := lensFilterUptoRow.holds Tryz.pinned (OpenSpec.upto lensFilterSpec)

/-- 'cadencelaw11.LensMap', WHERE WHAT IT READS IS OF BULK AT MOST 1048576: true; the input reads as it did. -/
def lensMapUptoRow : OpenClaim := { program := "ytbnjbianobdleaagreat", sum := "3a42a332c68e431d8e91b9f46aa3f599978f425b15b38f9518a847c684b07e47", func := "cadence/cadencelaw11.LensMap", spec := "lensMap", inPlace := ["internal/bytealg.abigen_runtime_cmpstring", "slices.overlaps[cadence/api.Edge]"], unfollowed := true, recurses := true, loops := true, apart := false, narrowed := true }
def LensMapUptoSaid : Prop := lensMapUptoRow.holds Tryz.pinned (OpenSpec.upto lensMapSpec)

/-- 'cadencelaw11.LensKnown', WHERE WHAT IT READS IS OF BULK AT MOST 1048576: true; the input reads as it did. -/
def lensKnownUptoRow : OpenClaim := { program := "ytbnjbianobdleaagreat", sum := "3a42a332c68e431d8e91b9f46aa3f599978f425b15b38f9518a847c684b07e47", func := "cadence/cadencelaw11.LensKnown", spec := "lensKnown", inPlace := ["internal/bytealg.abigen_runtime_cmpstring", "slices.overlaps[cadence/api.Edge]"], unfollowed := true, recurses := true, apart := false, narrowed := true }
def LensKnownUptoSaid : Prop := lensKnownUptoRow.holds Tryz.pinned (OpenSpec.upto lensKnownSpec)

end Rows
end Go.Proofs.YtbnjbianobdleaaGreat
