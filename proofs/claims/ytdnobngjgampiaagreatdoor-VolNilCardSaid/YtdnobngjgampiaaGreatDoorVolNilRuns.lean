/- The runs of VolNil, reckoned by the mill. Conditions: none beyond the given statement. -/
import Derived.Test.YtdnobngjgampiaaGreatDoorMillD
import Derived.Test.YtdnobngjgampiaaGreatDoorCards
import Derived.Test.YtdnobngjgampiaaGreatDoorTie
import Derived.WalkKit
import Derived.ProofKit
import Derived.OpenShut
import Derived.Deep.DeepHandedRow
import Derived.Lib.LaidTab
import Derived.Lay
set_option maxRecDepth 100000
namespace Go.Proofs.YtdnobngjgampiaaGreatDoor.volNil
open Go Go.ChangeShapes Go.WideShapes Go.ChangeAt Go.RowKit

noncomputable def cfg : Mill.Cfg := ⟨Tryz.prog, fun _ => none, fun f => Nat.beq f 183⟩
theorem names : Mill.NamesOk Tryz.prog := by
  have h : (Tryz.prog.funcs.toList.all fun fn => !(fn.name == "runtime.NumGoroutine")) = true := by kernel_rfl
  intro f fn hf
  have := List.all_eq_true.1 h fn (Array.mem_toList_iff.2 (Array.mem_of_getElem? hf))
  simpa using this
theorem passes : Mill.PassOk Tryz.prog cfg.pass := by
  intro f hf x w
  have : f = 183 := Nat.eq_of_beq_eq_true hf
  subst this
  rfl
theorem cfgOk (W : World) : Mill.CfgOk cfg W where
  ro := by
    intro b l h
    cases h
  names := names
  pass := passes
  mixed := by kernel_rfl
def allTrue (o : Mill.Outs) : Bool := match o with
  | some l => l.all fun p => match p.1 with
    | .v (.bool b) => b
    | _ => false
  | none => false
theorem runFalse [Mill.Syms] : allTrue (Mill.xCall cfg 100000 9 [.sym 0, .sym 1, .sym 2, .v (.bool false)] []) = true := by kernel_rfl
theorem runTrue [Mill.Syms] : allTrue (Mill.xCall cfg 100000 9 [.sym 0, .sym 1, .sym 2, .v (.bool true)] []) = true := by kernel_rfl
end Go.Proofs.YtdnobngjgampiaaGreatDoor.volNil
