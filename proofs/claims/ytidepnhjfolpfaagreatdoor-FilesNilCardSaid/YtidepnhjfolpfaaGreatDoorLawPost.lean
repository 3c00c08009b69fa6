/- The last step of every law: true, and what lay there as it was. Conditions: none. -/
import Derived.Test.YtidepnhjfolpfaaGreatDoorMillD
import Derived.WalkKit
import Derived.ProofKit
import Derived.OpenShut
import Derived.ReadAgain
import Derived.Deep.DeepHandedRow
import Derived.Lib.LaidTab
import Derived.Lay
set_option linter.unusedVariables false
namespace Go.LawPost
open Go Go.ChangeShapes Go.WideShapes Go.ChangeAt Go.RowKit

section
variable {H : Type} {enc : TypeId × Value → H} {P : Program} {W W' : World}
/-- Arguments read as they did, where what lay there is as it was. -/
theorem trodAll_carry {base : Nat} {spare : Nat → Bool} {held : Bool} : ∀ {ts : List TypeId} {vs : List Value} {ds : List (DataW H)} {ps : List MemPlace}, DataW.TrodAll enc P W base spare held ts vs ds ps → (∀ p ∈ ps, W.sameAt W' p) → DataW.TrodAll enc P W' base spare held ts vs ds ps
  | [], [], [], _, h, _ => h
  | _ :: _, _ :: _, _ :: _, _, ⟨p, q, ⟨n, h1⟩, h2, e⟩, hs =>
    ⟨p, q, ⟨n, DataW.trod_carry n _ _ _ h1 fun x hx => hs x (by rw [e]; exact List.mem_append_left _ hx)⟩, trodAll_carry h2 fun x hx => hs x (by rw [e]; exact List.mem_append_right _ hx), e⟩
theorem same_below {n : Nat} (hb : Below n W W') : ∀ p : MemPlace, p.block < n → W.sameAt W' p
  | .cell b off, h => hb.cell (p := ⟨b, off, none⟩) h
  | .map b, h => hb.block b h
/-- The program's table of types, as the reading wants it. -/
structure TypesOk (P : Program) : Prop where
  laid : laidOutB P = true
  maps : mapsRowed P = true
  full : ((List.range P.types.size).all fun t => match P.underlying t with | some (.slice e) => decide (0 < P.cellsOf e) | _ => true) = true
/-- A law that hands back true, and leaves what lay there as it was. -/
theorem law_post (K : TypesOk P) {fn : Func} {s : ChangeSpec} {args : Array Value} {ds gs : List (DataW H)} {before : List MemPlace} {tb : TypeId}
    (hW : DataW.Whole enc P fn.params.toList s.vars false W args.toList ds gs before) (hT : ∀ t ∈ fn.params.toList, t < P.types.size)
    (hvars : s.vars = []) (hfn : s.fn H (ds ++ gs) = { results := [.lit (.bool true)], args := ds }) (hres : fn.resultTypes = #[tb]) (ub : P.underlying tb = some .bool) (hb : Below W.heap.size W W') :
    s.post enc P fn false true false false W args (.bool true) W' := by
  have hlt : ∀ p ∈ before, p.block < W.heap.size := fun p hp => by simpa using hW.lt p hp
  have hold : ∀ p ∈ before, (fun b => decide (b < W.heap.size)) p.block = true := fun p hp => by simpa using hW.lt p hp
  obtain ⟨p, q, hA, hV, hpq, hz, hn⟩ := hW
  have hW : DataW.Whole enc P fn.params.toList s.vars false W args.toList ds gs before := ⟨p, q, hA, hV, hpq, hz, hn⟩
  have hq : gs = [] ∧ q = [] := by
    rw [hvars] at hV
    cases gs with
    | nil => exact ⟨rfl, hV⟩
    | cons g gs => exact hV.elim
  obtain ⟨rfl, rfl⟩ := hq
  rw [List.append_nil] at hpq; subst hpq
  have hargs : ∀ sp : Nat → Bool, (∀ x ∈ before, sp x.block = true) → DataW.TrodAll enc P W' 0 sp true fn.params.toList args.toList ds before := fun sp hsp =>
    trodAll_carry (hA.respare (kids_rows K.laid K.maps) (fun t e ht hu => slices_full_of P K.full t e ht hu) hT hsp) fun x hx => same_below hb x (hlt x hx)
  have hvars' : ∀ sp : Nat → Bool, DataW.TrodVars enc P W' sp s.vars (s.fn H (ds ++ [])).vars [] := fun sp => by
    rw [hvars, hfn]; rfl
  have hres' : ∀ (b : Nat) (sp : Nat → Bool) (hd : Bool), DataW.TrodAll enc P W' b sp hd fn.resultTypes.toList ((Value.bool true).resultList fn.resultTypes.size) (s.fn H (ds ++ [])).results [] := fun b sp hd => by
    rw [hres, hfn]
    exact trodAll_cons_mk (shut_bool ub _) trodAll_mk0
  have hok : ∀ (j : Nat) (t : TypeId) (r : Value), fn.resultTypes[j]? = some t → ((Value.bool true).resultList fn.resultTypes.size)[j]? = some r → Value.okWide P W' .any 0 t r := by
    rw [hres]
    intro j t r ht hr
    have hj : j = 0 := by
      have := (Array.getElem?_eq_some_iff.1 ht).1
      simp at this; exact this
    subst hj
    have ht' : tb = t := by simpa using ht
    have hr' : Value.bool true = r := Option.some.inj hr
    subst ht'; subst hr'
    exact okWide_bool_mk ub _
  refine ⟨ds, [], before, [], before, [], hW, hres' _ _ _, by rw [hfn]; exact hargs _ hold, hvars' _, World.keptBut_mono (fun p hp => ⟨hp, ?_⟩) (hb.frame (· ∈ before)), fun _ => ?_⟩
  · exact Or.inr (by simpa using hp)
  · refine ⟨hok, _, _, ([] ++ before) ++ [], ⟨[] ++ before, [], trodAll_append (by rw [hfn] at *; exact hargs _ (fun _ _ => rfl)) (hres' _ _ _), hvars' _, rfl, ?_, ?_⟩, ?_⟩
    · intro b off hp
      have hp' : MemPlace.cell b off ∈ before := by simpa using hp
      rw [hb.frozen (p := ⟨b, off, none⟩) (hlt _ hp')]
      exact hz b off hp'
    · intro ha; cases ha
    · intro p hp _
      simpa using hp
end

theorem below_of [Mill.Syms] {W w' : World} {e : Mill.Env} {H : List Mill.AO} (rh : Mill.RH W e H w') : Below W.heap.size W w' :=
  ⟨rh.same.1, rh.same.2.2, rh.same.2.1, rh.size, rh.kept⟩
theorem start [Mill.Syms] (W : World) : Mill.RH W [] [] W where
  len := rfl
  ob := fun i o b s h => by simp at h
  inj := fun i j b s s' h => by simp at h
  lo := fun i b s h => by simp at h
  size := Nat.le_refl _
  kept := fun _ _ => rfl
  same := ⟨rfl, rfl, rfl⟩
def allTrue (o : Mill.Outs) : Bool := match o with
  | some l => l.all fun p => match p.1 with
    | .v (.bool b) => b
    | _ => false
  | none => false
theorem allTrue_spec {o : Mill.Outs} (h : allTrue o = true) : ∃ l, o = some l ∧ ∀ z H, (z, H) ∈ l → z = .v (.bool true) := by
  unfold allTrue at h
  split at h
  case h_2 => cases h
  rename_i l
  refine ⟨l, rfl, fun z H hz => ?_⟩
  have := List.all_eq_true.1 h _ hz
  dsimp only at this
  split at this
  · rw [this]
  · cases this
/-- A run that yields true alone. -/
theorem calls_true [Mill.Syms] {C : Mill.Cfg} {W : World} (hC : Mill.CfgOk C W) {m : Nat} {f : FuncId} {as : List Mill.AV} {ws : Array Value} (h : allTrue (Mill.xCall C m f as []) = true) (gs : Mill.Gs [] as ws.toList) :
    Calls C.P f ws W fun e w' => e = .returned (.bool true) ∧ Below W.heap.size W w' := by
  obtain ⟨l, hl, ht⟩ := allTrue_spec h
  refine (Mill.xCall_sound hC hl (start W) gs).mono fun e w' h => ?_
  obtain ⟨z, H', v, e', rfl, hm, _, g, rh⟩ := h
  have hz := ht z H' hm
  subst hz
  have : v = .bool true := by simpa only [Mill.G] using g
  subst this
  exact ⟨rfl, below_of rh⟩
end Go.LawPost
