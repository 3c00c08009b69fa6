/- The contract of FilesNil and what it is lifted to. Conditions: none beyond the given statement. -/
import Derived.Test.YtidepnhjfolpfaaGreatDoorFilesNilRuns
set_option maxRecDepth 100000
namespace Go.Proofs.YtidepnhjfolpfaaGreatDoor.filesNil
open Go Go.ChangeShapes Go.WideShapes Go.ChangeAt Go.RowKit
theorem cfgOk [Mill.Syms] {W : World} (hR : Mill.RO W cfg.R) : Mill.CfgOk cfg W where
  ro := hR
  names := names
  pass := passes
  mixed := by kernel_rfl
theorem walk (W : World) (hR : Mill.RO W cfg.R) (c0 : Array Value) (z0 : c0.size = 14) (o0 : ∀ v ∈ c0.toList, v.oneCell' = true) (n1 : Int) (s2 : ByteArray) (b : Bool) :
    Calls Tryz.prog 3 #[.agg c0, .int .i64 n1, .string s2, .bool b] W fun e w' => e = .returned (.bool true) ∧ Below W.heap.size W w' := by
  let L : List Value := c0.toList ++ [.int .i64 n1] ++ [.string s2]
  have hL : ∀ v ∈ L, v.oneCell' = true := by
    intro v hv
    simp only [L, List.mem_append, List.mem_cons, List.mem_nil_iff, or_false] at hv
    rcases hv with ((h0 | h1) | h2)
    · exact o0 v h0
    · rw [h1]; rfl
    · rw [h2]; rfl
  letI I : Mill.Syms := LawPost.symsOf L hL
  have gs : ∀ b : Bool, Mill.Gs [] [.agg (LawPost.symRow 0 14), .sym 14, .sym 15, .v (.bool b)] [.agg c0, .int .i64 n1, .string s2, .bool b] := by
    intro b
    simp only [Mill.Gs]
    refine ⟨_, _, rfl, ⟨c0, rfl, by have := LawPost.symRow_Gs (L := L) (h := hL) (e := []) c0.toList 0 (fun j v hj => LawPost.mid (A := []) (B := c0.toList) (C := [.int .i64 n1] ++ [.string s2]) (by simp [L]) (by simp) hj); simpa [z0] using this⟩, ⟨_, _, rfl, LawPost.sym_G (h := hL) (by simp [L, z0]), ⟨_, _, rfl, LawPost.sym_G (h := hL) (by simp [L, z0]), ⟨_, _, rfl, rfl, rfl⟩⟩⟩⟩
  cases b
  · exact LawPost.calls_true (cfgOk hR) runFalse (gs false)
  · exact LawPost.calls_true (cfgOk hR) runTrue (gs true)
theorem own : ownKnob Tryz.prog.godebug = none := by kernel_rfl
theorem roOk {W : World} (h : laidMetH Tryz.prog Rows.filesNilRow.laid W) : Mill.RO W cfg.R := by
  have h' : laidMet Tryz.prog Rows.filesNilRow.laid W := h
  obtain ⟨ps, hl, _, _⟩ := h'
  intro b l hb
  have hb' : b = 0 ∧ l = ro0 := by
    cases hc : Nat.beq b 0 with
    | true =>
      have : Bool.rec (motive := fun _ => Option (List Value)) none (some ro0) (Nat.beq b 0) = some l := hb
      rw [hc] at this
      exact ⟨Nat.eq_of_beq_eq_true hc, (Option.some.inj this).symm⟩
    | false =>
      have : Bool.rec (motive := fun _ => Option (List Value)) none (some ro0) (Nat.beq b 0) = some l := hb
      rw [hc] at this
      cases this
  obtain ⟨rfl, rfl⟩ := hb'
  exact LawPost.laid_cells typesOk (name := "refectory/share.ways") (d := Rows.laid_refectory_share_ways) (t := 156) (by kernel_rfl) (by kernel_rfl) (of_decide_eq_true (by kernel_rfl)) (LawPost.Flat.agg (LawPost.Flats.cons (LawPost.Flat.agg (LawPost.Flats.cons (LawPost.Flat.int .u8 0) (LawPost.Flats.cons (LawPost.Flat.int .u8 0) (LawPost.Flats.cons (LawPost.Flat.int .i64 2) (LawPost.Flats.cons (LawPost.Flat.int .i64 2) LawPost.Flats.nil))))) (LawPost.Flats.cons (LawPost.Flat.agg (LawPost.Flats.cons (LawPost.Flat.int .u8 0) (LawPost.Flats.cons (LawPost.Flat.int .u8 0) (LawPost.Flats.cons (LawPost.Flat.int .i64 0) (LawPost.Flats.cons (LawPost.Flat.int .i64 7) LawPost.Flats.nil))))) (LawPost.Flats.cons (LawPost.Flat.agg (LawPost.Flats.cons (LawPost.Flat.int .u8 0) (LawPost.Flats.cons (LawPost.Flat.int .u8 1) (LawPost.Flats.cons (LawPost.Flat.int .i64 8) (LawPost.Flats.cons (LawPost.Flat.int .i64 0) LawPost.Flats.nil))))) (LawPost.Flats.cons (LawPost.Flat.agg (LawPost.Flats.cons (LawPost.Flat.int .u8 0) (LawPost.Flats.cons (LawPost.Flat.int .u8 1) (LawPost.Flats.cons (LawPost.Flat.int .i64 0) (LawPost.Flats.cons (LawPost.Flat.int .i64 0) LawPost.Flats.nil))))) (LawPost.Flats.cons (LawPost.Flat.agg (LawPost.Flats.cons (LawPost.Flat.int .u8 2) (LawPost.Flats.cons (LawPost.Flat.int .u8 0) (LawPost.Flats.cons (LawPost.Flat.int .i64 0) (LawPost.Flats.cons (LawPost.Flat.int .i64 7) LawPost.Flats.nil))))) (LawPost.Flats.cons (LawPost.Flat.agg (LawPost.Flats.cons (LawPost.Flat.int .u8 2) (LawPost.Flats.cons (LawPost.Flat.int .u8 1) (LawPost.Flats.cons (LawPost.Flat.int .i64 0) (LawPost.Flats.cons (LawPost.Flat.int .i64 0) LawPost.Flats.nil))))) LawPost.Flats.nil))))))) hl (by simp [Rows.filesNilRow])
theorem contract (H : Type) (enc : TypeId × Value → H) (W : World) (base : Nat) (args : Array Value) (ds gs : List (DataW H)) (before : List MemPlace)
    (hval : ∀ (j : Nat) t v, Tryz.f3.params[j]? = some t → args[j]? = some v → Value.okWide Tryz.prog W .any base t v)
    (hW : DataW.Whole enc Tryz.prog Tryz.f3.params.toList Rows.filesNilSpec.vars false W args.toList ds gs before) (hR : Mill.RO W cfg.R) :
    Calls Tryz.prog 3 args W fun e W' => ∃ v, e = .returned v ∧ Rows.filesNilSpec.post enc Tryz.prog Tryz.f3 false true false false W args v W' := by
  have hW' := hW
  obtain ⟨p, q, hA0, hV, rfl, hfz, hnd⟩ := hW
  have hA : DataW.TrodAll enc Tryz.prog W 0 (fun _ => true) true Tryz.f3.params.toList args.toList ds p := hA0
  rw [Tryz.params3] at hA hval
  obtain ⟨v0, vs0, d0, ds0, p0, q0, hargs0, rfl, rfl, h0, r0⟩ := trodAll_cons hA
  obtain ⟨v1, vs1, d1, ds1, p1, q1, hargs1, rfl, rfl, h1, r1⟩ := trodAll_cons r0
  obtain ⟨v2, vs2, d2, ds2, p2, q2, hargs2, rfl, rfl, h2, r2⟩ := trodAll_cons r1
  obtain ⟨v3, vs3, d3, ds3, p3, q3, hargs3, rfl, rfl, h3, r3⟩ := trodAll_cons r2
  obtain ⟨rfl, rfl, rfl⟩ := trodAll_nil r3
  obtain rfl : args = #[v0, v1, v2, v3] := by cases args; simp_all
  obtain ⟨rfl, rfl⟩ := trodVars_none hV
  obtain ⟨c0, rfl, z0, o0⟩ := LawPost.struct_arg (show Tryz.prog.underlying 29 = some (.struct _) from rfl) (hval 0 29 v0 rfl rfl)
  have z0 : c0.size = 14 := z0.trans (by kernel_rfl)
  obtain ⟨n1, rfl, _, _⟩ := open_int Tryz.underlying3 (hval 1 3 v1 rfl rfl) h1
  obtain ⟨s2, rfl, _, _⟩ := Go.ChangeMaps.open_string Tryz.underlying9 (hval 2 9 v2 rfl rfl) h2
  obtain ⟨b, rfl, _, _⟩ := open_bool Tryz.underlying4 (hval 3 4 v3 rfl rfl) h3
  clear hA0
  refine (walk W hR c0 z0 o0 n1 s2 b).mono fun e W' ⟨he, hb⟩ => ?_
  subst he
  exact ⟨_, rfl, LawPost.law_post typesOk hW' (by
    intro t ht
    rw [Tryz.params3] at ht
    simp only [List.mem_cons, List.mem_nil_iff, or_false] at ht
    rcases ht with rfl | rfl | rfl | rfl <;> exact of_decide_eq_true (by kernel_rfl)) rfl rfl (by kernel_rfl) Tryz.underlying4 hb⟩
noncomputable def args0 : Array Value := #[.agg #[.int .u8 0, .string ⟨#[]⟩, .int .u32 0, .int .u32 0, .int .u32 0, .int .u32 0, .int .i64 0, .int .i64 0, .int .i64 0, .slice none 0 0, .string ⟨#[]⟩, .string ⟨#[]⟩, .bool false, .slice none 0 0], .int .i64 0, .string ⟨#[]⟩, .bool false]
theorem laid_met (os : Os) : laidMet Tryz.prog Rows.filesNilRow.laid ((World.laidAll Tryz.prog os Rows.filesNilRow.laid).forCall (fun _ _ => 0) ⟨#[], args0, []⟩).memory :=
  laidMet_laidAll _ (by kernel_rfl) (by kernel_rfl)
theorem reads (os : Os) {H : Type} (enc : TypeId × Value → H) : ∃ x, DataW.whole enc Tryz.prog ((World.laidAll Tryz.prog os Rows.filesNilRow.laid).forCall (fun _ _ => 0) ⟨#[], args0, []⟩).memory Tryz.f3.params.toList Rows.filesNilSpec.vars false args0.toList 12 = some x :=
  Option.isSome_iff_exists.1 (by kernel_rfl)
/-- THE STEP. -/
theorem lifted (os : Os) (started : os.Started) (H : Type) (enc : TypeId × Value → H) (F : Stop.Interp) :
    ReturnsInHanded {} Tryz.checked os 3 .any ((OpenSpec.ofChange Rows.filesNilSpec).preRow enc Tryz.prog Tryz.f3 Rows.filesNilRow.domain false Rows.filesNilRow.laid) (((OpenSpec.ofChange Rows.filesNilSpec).at F).post enc Tryz.prog Tryz.f3 false true false false) := by
  obtain ⟨x, hx⟩ := reads os enc
  refine returnsInHanded_of_row (C := Tryz.checked) (s := OpenSpec.ofChange Rows.filesNilSpec) own started (by kernel_rfl) Tryz.func3
    (witness_row_at (enc := enc) (C := Tryz.checked) false (World.laidAll Tryz.prog os Rows.filesNilRow.laid) args0 (World.laidAll_os _ _ _) (by kernel_rfl) (by kernel_rfl) (by kernel_rfl)
      (OpenSpec.preRow_of_cond 12 hx rfl (fun k hk => by cases hk) (by kernel_rfl) (laid_met os))) ?_
  intro W base args ds gs before hval hW _ _ _ hl _ _
  exact contract H enc W base args ds gs before hval hW (roOk hl)
/-- No parameter wants a stand-in; the program's own looks are off. -/
theorem plain (f : FuncId) (fn : Func) (hf : Tryz.pinned.checked.prog.funcNamed "refectory/refectorylaw19.FilesNil" = some f) (hfn : Tryz.pinned.checked.prog.funcs[f]? = some fn) :
    false = Tryz.pinned.checked.prog.looks [] ∧ ∀ (j : Nat) t, fn.params[j]? = some t → Tryz.pinned.checked.prog.wantsStandIn t = false := by
  obtain rfl : f = 3 := Option.some.inj ((show Tryz.prog.funcNamed "refectory/refectorylaw19.FilesNil" = some 3 by kernel_rfl).symm.trans hf) |>.symm
  obtain rfl : fn = Tryz.f3 := (Option.some.inj (Tryz.func3.symm.trans hfn)).symm
  refine ⟨by kernel_rfl, fun j t ht => ?_⟩
  rw [Tryz.params3] at ht
  have hm := Array.mem_of_getElem? ht
  simp only [List.mem_toArray, List.mem_cons, List.mem_nil_iff, or_false] at hm
  rcases hm with rfl | rfl | rfl | rfl
  · exact (show Tryz.prog.wantsStandIn 29 = false by kernel_rfl)
  · exact (show Tryz.prog.wantsStandIn 3 = false by kernel_rfl)
  · exact (show Tryz.prog.wantsStandIn 9 = false by kernel_rfl)
  · exact (show Tryz.prog.wantsStandIn 4 = false by kernel_rfl)
end Go.Proofs.YtidepnhjfolpfaaGreatDoor.filesNil
