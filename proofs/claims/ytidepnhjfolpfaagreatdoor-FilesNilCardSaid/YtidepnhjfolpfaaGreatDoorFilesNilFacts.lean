/- FilesNilSaid is proved. Conditions: none beyond the given statement. -/
import Derived.Test.YtidepnhjfolpfaaGreatDoorFilesNilWalk
set_option maxRecDepth 100000
namespace Go.Proofs.YtidepnhjfolpfaaGreatDoor.filesNil
open Go Go.ChangeShapes Go.WideShapes Go.ChangeAt Go.RowKit
theorem fInPlace : (Rows.filesNilRow.inPlace == Tryz.pinned.checked.prog.inPlace 3) = true := by kernel_rfl
theorem fUnfollowed : (Rows.filesNilRow.unfollowed == Tryz.pinned.checked.prog.unfollowed 3) = true := by kernel_rfl
theorem fRecurses : (Rows.filesNilRow.recurses == Tryz.pinned.checked.prog.recurses 3) = true := by kernel_rfl
theorem fNamed : (Rows.filesNilRow.named == Tryz.pinned.checked.prog.varsNamed 3) = true := by kernel_rfl
set_option maxHeartbeats 4000000 in
theorem facts : joinedFacts Tryz.pinned.checked.prog 3 Tryz.f3 (OpenSpec.ofChange Rows.filesNilSpec).bare Rows.filesNilRow = true := by
  unfold joinedFacts
  simp only [Bool.and_eq_true]
  repeat' apply And.intro
  all_goals first
    | with_reducible exact fInPlace
    | with_reducible exact fUnfollowed
    | with_reducible exact fRecurses
    | with_reducible exact fNamed
    | as_aux_lemma => kernel_rfl
set_option maxHeartbeats 4000000 in
theorem said : Rows.FilesNilSaid :=
  OpenClaim.holds_of_cond 3 Tryz.f3 rfl rfl rfl rfl rfl rfl rfl ⟨rfl, rfl, rfl, rfl, rfl⟩ rfl rfl rfl rfl rfl (by as_aux_lemma => kernel_rfl) Tryz.func3 facts
    (of_decide_eq_true (by as_aux_lemma => kernel_rfl)) (by unfold Func.isWrapper; first | (rw [if_pos (by decide +kernel)]; kernel_rfl) | (rw [if_neg (by decide +kernel)]; exact ⟨rfl, rfl⟩))
    (fun os started H enc _ F => by rw [OpenClaim.pre_eq_preRow]; exact lifted os started H enc F)
end Go.Proofs.YtidepnhjfolpfaaGreatDoor.filesNil
