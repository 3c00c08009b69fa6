/- VolNilSaid is proved. Conditions: none beyond the given statement. -/
import Derived.Test.YtdnobngjgampiaaGreatDoorVolNilWalk
set_option maxRecDepth 100000
namespace Go.Proofs.YtdnobngjgampiaaGreatDoor.volNil
open Go Go.ChangeShapes Go.WideShapes Go.ChangeAt Go.RowKit
theorem fInPlace : (Rows.volNilRow.inPlace == Tryz.pinned.checked.prog.inPlace 9) = true := by kernel_rfl
theorem fUnfollowed : (Rows.volNilRow.unfollowed == Tryz.pinned.checked.prog.unfollowed 9) = true := by kernel_rfl
theorem fRecurses : (Rows.volNilRow.recurses == Tryz.pinned.checked.prog.recurses 9) = true := by kernel_rfl
theorem fNamed : (Rows.volNilRow.named == Tryz.pinned.checked.prog.varsNamed 9) = true := by kernel_rfl
set_option maxHeartbeats 4000000 in
theorem facts : joinedFacts Tryz.pinned.checked.prog 9 Tryz.f9 (OpenSpec.ofChange Rows.volNilSpec).bare Rows.volNilRow = true := by
  unfold joinedFacts
  simp only [Bool.and_eq_true]
  repeat' apply And.intro
  all_goals first
    | with_reducible exact fInPlace
    | with_reducible exact fUnfollowed
    | with_reducible exact fRecurses
    | with_reducible exact fNamed
    | as_aux_lemma => kernel_rfl
set_option maxHeartbeats 4000000 in
theorem said : Rows.VolNilSaid :=
  OpenClaim.holds_of_cond 9 Tryz.f9 rfl rfl rfl rfl rfl rfl rfl ⟨rfl, rfl, rfl, rfl, rfl⟩ rfl rfl rfl rfl rfl (by as_aux_lemma => kernel_rfl) Tryz.func9 facts
    (of_decide_eq_true (by as_aux_lemma => kernel_rfl)) (by unfold Func.isWrapper; first | (rw [if_pos (by decide +kernel)]; kernel_rfl) | (rw [if_neg (by decide +kernel)]; exact ⟨rfl, rfl⟩))
    (fun os started H enc _ F => by rw [OpenClaim.pre_eq_preRow]; exact lifted os started H enc F)
end Go.Proofs.YtdnobngjgampiaaGreatDoor.volNil
