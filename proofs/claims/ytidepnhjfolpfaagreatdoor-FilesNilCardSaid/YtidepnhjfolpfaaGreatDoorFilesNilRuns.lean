/- The runs of FilesNil, reckoned by the mill. Conditions: none. -/
import Derived.Test.YtidepnhjfolpfaaGreatDoorLawLaid
import Derived.Test.YtidepnhjfolpfaaGreatDoorCards
import Derived.Test.YtidepnhjfolpfaaGreatDoorTie
set_option maxRecDepth 100000
namespace Go.Proofs.YtidepnhjfolpfaaGreatDoor.filesNil
open Go Go.ChangeShapes Go.WideShapes Go.ChangeAt Go.RowKit
def ro0 : List Value := [.int .u8 0, .int .u8 0, .int .i64 2, .int .i64 2, .int .u8 0, .int .u8 0, .int .i64 0, .int .i64 7, .int .u8 0, .int .u8 1, .int .i64 8, .int .i64 0, .int .u8 0, .int .u8 1, .int .i64 0, .int .i64 0, .int .u8 2, .int .u8 0, .int .i64 0, .int .i64 7, .int .u8 2, .int .u8 1, .int .i64 0, .int .i64 0]
noncomputable def cfg : Mill.Cfg := ⟨Tryz.prog, fun b => Bool.rec (none) (some ro0) (Nat.beq b 0), fun f => Nat.beq f 188⟩
theorem names : Mill.NamesOk Tryz.prog := by
  have h : (Tryz.prog.funcs.toList.all fun fn => !(fn.name == "runtime.NumGoroutine")) = true := by kernel_rfl
  intro f fn hf
  have := List.all_eq_true.1 h fn (Array.mem_toList_iff.2 (Array.mem_of_getElem? hf))
  simpa using this
theorem passes : Mill.PassOk Tryz.prog cfg.pass := by
  intro f hf x w
  have : f = 188 := Nat.eq_of_beq_eq_true hf
  subst this
  rfl
theorem typesOk : LawPost.TypesOk Tryz.prog := ⟨by kernel_rfl, by kernel_rfl, by kernel_rfl⟩
theorem runFalse [Mill.Syms] : LawPost.allTrue (Mill.xCall cfg 100000 3 [.agg (LawPost.symRow 0 14), .sym 14, .sym 15, .v (.bool false)] []) = true := by kernel_rfl
theorem runTrue [Mill.Syms] : LawPost.allTrue (Mill.xCall cfg 100000 3 [.agg (LawPost.symRow 0 14), .sym 14, .sym 15, .v (.bool true)] []) = true := by kernel_rfl
end Go.Proofs.YtidepnhjfolpfaaGreatDoor.filesNil
