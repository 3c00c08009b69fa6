/- The card of FilesNil is proved: of none, and of a zero one, all is refused, or nothing. Conditions: none beyond the given statement. -/
import Derived.Test.YtidepnhjfolpfaaGreatDoorFilesNilFacts
set_option maxRecDepth 100000
namespace Go.Proofs.YtidepnhjfolpfaaGreatDoor.filesNil
open Go Go.ChangeShapes Go.WideShapes Go.ChangeAt Go.RowKit
/-- THE CARD. -/
theorem card : Rows.FilesNilCardSaid :=
  Claim7.holds_tied_plain_at .later [] _ _ _ _ said (fun _ h => by cases h) (by as_aux_lemma => kernel_rfl) (fun _ h => by cases h) filesNil_row_tie rfl ⟨rfl, rfl⟩ (by as_aux_lemma => kernel_rfl) rfl plain (by as_aux_lemma => kernel_rfl)
end Go.Proofs.YtidepnhjfolpfaaGreatDoor.filesNil
