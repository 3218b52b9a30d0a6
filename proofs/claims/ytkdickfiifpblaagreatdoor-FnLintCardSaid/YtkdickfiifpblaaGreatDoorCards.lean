/-
  DERIVED. GIVEN WITH THE SEED: THE CARDS: each row of YtkdickfiifpblaaGreatDoorRows.lean that lists a variable, with what it lists TIED to the program's text (the seventh form; the later family's looks); each row that meets fmt, with fmt's text TOLD by the authors' own Lean function (tested against real Go, not proved from fmt's source: count such statements apart). THE CARD IS WHAT COUNTS. Prove the row's statement (the work); the ties are given (YtkdickfiifpblaaGreatDoorTie.lean); close each card by the builder's one call (the guide's Derived/Test/ToyasCard.lean, 'card_holds'). Laid BY PROGRAM, IN A SANDBOX (cutbox-door.mjs). By AI agents, Wed Nov 11 2026. No macro, syntax, notation, axiom, sorry.
-/
import Derived.Test.YtkdickfiifpblaaGreatDoorRows
import GoSem.ClaimSeven
namespace Go.Proofs.YtkdickfiifpblaaGreatDoor
namespace Rows

/-- THE TIED CARD OF 'laws.FnLint'. -/
def fnLintCard : Claim7 := { stood := { row := fnLintRow, standIns := [], harness := (true, "87a83e4649601790fc6a9f31a209939072025ef9291a379d80ca2399ab9b6727"), looks := false }, kinds := [], alts := [], laidByText := true, laidKinds := [.data, .data, .data], laidTests := true, laidLooks := .later }
def FnLintCardSaid : Prop := Claim7.holds Tryz.pinned (.plain (OpenSpec.ofChange fnLintSpec)) fnLintCard

/-- THE SECOND FORM's CARD OF 'laws.FnLint'. -/
def fnLintUptoCard : Claim7 := { stood := { row := fnLintUptoRow, standIns := [], harness := (true, "87a83e4649601790fc6a9f31a209939072025ef9291a379d80ca2399ab9b6727"), looks := false }, kinds := [], alts := [], laidByText := true, laidKinds := [.data, .data, .data], laidTests := true, laidLooks := .later }
def FnLintUptoCardSaid : Prop := Claim7.holds Tryz.pinned (.plain (OpenSpec.upto fnLintSpec)) fnLintUptoCard
end Rows
end Go.Proofs.YtkdickfiifpblaaGreatDoor
