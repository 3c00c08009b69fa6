/-
  DERIVED. GIVEN WITH THE SEED: THE CARDS: each row of YtidepnhjfolpfaaGreatDoorRows.lean that lists a variable, with what it lists TIED to the program's text (the seventh form; the later family's looks); each row that meets fmt, with fmt's text TOLD by the authors' own Lean function (tested against real Go, not proved from fmt's source: count such statements apart). THE CARD IS WHAT COUNTS. Prove the row's statement (the work); the ties are given (YtidepnhjfolpfaaGreatDoorTie.lean); close each card by the builder's one call (the guide's Derived/Test/ToyasCard.lean, 'card_holds'). Laid BY PROGRAM, IN A SANDBOX (cutbox-door.mjs). By AI agents, Wed Nov 11 2026. No macro, syntax, notation, axiom, sorry.
-/
import Derived.Test.YtidepnhjfolpfaaGreatDoorRows
import GoSem.ClaimSeven
namespace Go.Proofs.YtidepnhjfolpfaaGreatDoor
namespace Rows

/-- THE TIED CARD OF 'refectorylaw19.FilesNil'. -/
def filesNilCard : Claim7 := { stood := { row := filesNilRow, standIns := [], harness := (true, "bb474608d44a55746176e1790636366ae6c66bacf79044d45f69c4cdd635805a"), looks := false }, kinds := [], alts := [], laidByText := true, laidKinds := [.data, .data, .pinned], laidTests := true, laidLooks := .later }
def FilesNilCardSaid : Prop := Claim7.holds Tryz.pinned (.plain (OpenSpec.ofChange filesNilSpec)) filesNilCard

/-- THE SECOND FORM's CARD OF 'refectorylaw19.FilesNil'. -/
def filesNilUptoCard : Claim7 := { stood := { row := filesNilUptoRow, standIns := [], harness := (true, "bb474608d44a55746176e1790636366ae6c66bacf79044d45f69c4cdd635805a"), looks := false }, kinds := [], alts := [], laidByText := true, laidKinds := [.data, .data, .pinned], laidTests := true, laidLooks := .later }
def FilesNilUptoCardSaid : Prop := Claim7.holds Tryz.pinned (.plain (OpenSpec.upto filesNilSpec)) filesNilUptoCard
end Rows
end Go.Proofs.YtidepnhjfolpfaaGreatDoor
