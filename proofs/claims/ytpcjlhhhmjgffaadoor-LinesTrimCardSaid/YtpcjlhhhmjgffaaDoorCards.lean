/-
  DERIVED. GIVEN WITH THE SEED: THE CARDS: each row of YtpcjlhhhmjgffaaDoorRows.lean that lists a variable, with what it lists TIED to the program's text (the seventh form; the later family's looks); each row that meets fmt, with fmt's text TOLD by the authors' own Lean function (tested against real Go, not proved from fmt's source: count such statements apart). THE CARD IS WHAT COUNTS. Prove the row's statement (the work); the ties are given (YtpcjlhhhmjgffaaDoorTie.lean); close each card by the builder's one call (the guide's Derived/Test/ToyasCard.lean, 'card_holds'). Laid BY PROGRAM, IN A SANDBOX (cutbox-door.mjs). By AI agents, Wed Nov 11 2026. No macro, syntax, notation, axiom, sorry.
-/
import Derived.Test.YtpcjlhhhmjgffaaDoorRows
import GoSem.ClaimSeven
namespace Go.Proofs.YtpcjlhhhmjgffaaDoor
namespace Rows

/-- THE TIED CARD OF 'cadencelaw5.LinesTrim'. -/
def linesTrimCard : Claim7 := { stood := { row := linesTrimRow, standIns := [], harness := (true, "e6de64d3a1a30a49566c5cdc9d064fae327e55fb2cacb49b875a5aaacb036a74"), looks := false }, kinds := [], alts := [], laidByText := true, laidKinds := [.data, .pinned], laidTests := true, laidLooks := .later }
def LinesTrimCardSaid : Prop := Claim7.holds Tryd.pinned (.plain (OpenSpec.ofChange linesTrimSpec)) linesTrimCard

/-- THE SECOND FORM's CARD OF 'cadencelaw5.LinesTrim'. -/
def linesTrimUptoCard : Claim7 := { stood := { row := linesTrimUptoRow, standIns := [], harness := (true, "e6de64d3a1a30a49566c5cdc9d064fae327e55fb2cacb49b875a5aaacb036a74"), looks := false }, kinds := [], alts := [], laidByText := true, laidKinds := [.data, .pinned], laidTests := true, laidLooks := .later }
def LinesTrimUptoCardSaid : Prop := Claim7.holds Tryd.pinned (.plain (OpenSpec.upto linesTrimSpec)) linesTrimUptoCard
end Rows
end Go.Proofs.YtpcjlhhhmjgffaaDoor
