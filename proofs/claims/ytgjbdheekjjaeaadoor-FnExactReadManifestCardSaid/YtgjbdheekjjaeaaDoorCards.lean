/-
  DERIVED. GIVEN WITH THE SEED: THE CARDS: each row of YtgjbdheekjjaeaaDoorRows.lean that lists a variable, with what it lists TIED to the program's text (the seventh form; the later family's looks); each row that meets fmt, with fmt's text TOLD by the authors' own Lean function (tested against real Go, not proved from fmt's source: count such statements apart). THE CARD IS WHAT COUNTS. Prove the row's statement (the work); the ties are given (YtgjbdheekjjaeaaDoorTie.lean); close each card by the builder's one call (the guide's Derived/Test/ToyasCard.lean, 'card_holds'). Laid BY PROGRAM, IN A SANDBOX (cutbox-door.mjs). By AI agents, Wed Nov 11 2026. No macro, syntax, notation, axiom, sorry.
-/
import Derived.Test.YtgjbdheekjjaeaaDoorRows
import GoSem.ClaimSeven
namespace Go.Proofs.YtgjbdheekjjaeaaDoor
namespace Rows

/-- THE TIED CARD OF 'laws.FnExactShowNotes'. -/
def fnExactShowNotesCard : Claim7 := { stood := { row := fnExactShowNotesRow, standIns := [], harness := (true, "c80ef0da1a85f7686d95389540bb0e92c103027433b1c2411472e3beeca904fc"), looks := false }, kinds := [], alts := [], laidByText := true, laidKinds := [.data, .data, .data], laidTests := true, laidLooks := .later }
def FnExactShowNotesCardSaid : Prop := Claim7.holds Tryd.pinned (.plain (OpenSpec.ofChange fnExactShowNotesSpec)) fnExactShowNotesCard

/-- THE TIED CARD OF 'laws.FnExactReadManifest'. -/
def fnExactReadManifestCard : Claim7 := { stood := { row := fnExactReadManifestRow, standIns := [], harness := (true, "c80ef0da1a85f7686d95389540bb0e92c103027433b1c2411472e3beeca904fc"), looks := false }, kinds := [], alts := [], laidByText := true, laidKinds := [.data, .pinned], laidTests := true, laidLooks := .later }
def FnExactReadManifestCardSaid : Prop := Claim7.holds Tryd.pinned (.plain (OpenSpec.ofChange fnExactReadManifestSpec)) fnExactReadManifestCard

/-- THE SECOND FORM's CARD OF 'laws.FnExactShowNotes'. -/
def fnExactShowNotesUptoCard : Claim7 := { stood := { row := fnExactShowNotesUptoRow, standIns := [], harness := (true, "c80ef0da1a85f7686d95389540bb0e92c103027433b1c2411472e3beeca904fc"), looks := false }, kinds := [], alts := [], laidByText := true, laidKinds := [.data, .data, .data], laidTests := true, laidLooks := .later }
def FnExactShowNotesUptoCardSaid : Prop := Claim7.holds Tryd.pinned (.plain (OpenSpec.upto fnExactShowNotesSpec)) fnExactShowNotesUptoCard

/-- THE SECOND FORM's CARD OF 'laws.FnExactReadManifest'. -/
def fnExactReadManifestUptoCard : Claim7 := { stood := { row := fnExactReadManifestUptoRow, standIns := [], harness := (true, "c80ef0da1a85f7686d95389540bb0e92c103027433b1c2411472e3beeca904fc"), looks := false }, kinds := [], alts := [], laidByText := true, laidKinds := [.data, .pinned], laidTests := true, laidLooks := .later }
def FnExactReadManifestUptoCardSaid : Prop := Claim7.holds Tryd.pinned (.plain (OpenSpec.upto fnExactReadManifestSpec)) fnExactReadManifestUptoCard
end Rows
end Go.Proofs.YtgjbdheekjjaeaaDoor
