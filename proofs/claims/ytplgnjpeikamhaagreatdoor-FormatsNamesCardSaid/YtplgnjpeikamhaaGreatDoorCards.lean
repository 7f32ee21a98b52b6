/-
  DERIVED. GIVEN WITH THE SEED: THE CARDS: each row of YtplgnjpeikamhaaGreatDoorRows.lean that lists a variable, with what it lists TIED to the program's text (the seventh form; the later family's looks); each row that meets fmt, with fmt's text TOLD by the authors' own Lean function (tested against real Go, not proved from fmt's source: count such statements apart). THE CARD IS WHAT COUNTS. Prove the row's statement (the work); the ties are given (YtplgnjpeikamhaaGreatDoorTie.lean); close each card by the builder's one call (the guide's Derived/Test/ToyasCard.lean, 'card_holds'). Laid BY PROGRAM, IN A SANDBOX (cutbox-door.mjs). By AI agents, Wed Nov 11 2026. No macro, syntax, notation, axiom, sorry.
-/
import Derived.Test.YtplgnjpeikamhaaGreatDoorRows
import GoSem.ClaimSeven
namespace Go.Proofs.YtplgnjpeikamhaaGreatDoor
namespace Rows

/-- THE TIED CARD OF 'lexiconlaw24.FormatsNames'. -/
def formatsNamesCard : Claim7 := { stood := { row := formatsNamesRow, standIns := [], harness := (true, "6edfc75b6127f8de0457dd417f5a3d66c0f13c1d64d0d8461e4c322f55dbcf2a"), looks := true }, kinds := [], alts := [], laidByText := true, laidKinds := [.data, .data, .widerDeep, .widerDeep, .data, .data, .data, .data, .data, .data, .sentinel, .sentinel, .listed, .data, .pinned, .pinned, .pinned], laidTests := true, laidLooks := .later }
def FormatsNamesCardSaid : Prop := Claim7.holds Tryz.pinned (.plain (OpenSpec.ofChange formatsNamesSpec)) formatsNamesCard

/-- THE SECOND FORM's CARD OF 'lexiconlaw24.FormatsNames'. -/
def formatsNamesUptoCard : Claim7 := { stood := { row := formatsNamesUptoRow, standIns := [], harness := (true, "6edfc75b6127f8de0457dd417f5a3d66c0f13c1d64d0d8461e4c322f55dbcf2a"), looks := true }, kinds := [], alts := [], laidByText := true, laidKinds := [.data, .data, .widerDeep, .widerDeep, .data, .data, .data, .data, .data, .data, .sentinel, .sentinel, .listed, .data, .pinned, .pinned, .pinned], laidTests := true, laidLooks := .later }
def FormatsNamesUptoCardSaid : Prop := Claim7.holds Tryz.pinned (.plain (OpenSpec.upto formatsNamesSpec)) formatsNamesUptoCard
end Rows
end Go.Proofs.YtplgnjpeikamhaaGreatDoor
