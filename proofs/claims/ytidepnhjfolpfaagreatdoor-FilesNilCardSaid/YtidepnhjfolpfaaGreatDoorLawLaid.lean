/- Tables that are laid, and arguments by signs. Conditions: none. -/
import Derived.Test.YtidepnhjfolpfaaGreatDoorLawPost
set_option linter.unusedVariables false
namespace Go.LawPost
open Go Go.ChangeShapes Go.WideShapes Go.ChangeAt Go.RowKit

mutual
/-- A datum of whole numbers in structs and arrays, and its cells. -/
inductive Flat {H : Type} : DataW H → List Value → Prop where
  | int (k : IntKind) (n : Int) : Flat (.lit (.int k n)) [.int k n]
  | agg {ds : List (DataW H)} {vs : List Value} : Flats ds vs → Flat (.agg ds) vs
inductive Flats {H : Type} : List (DataW H) → List Value → Prop where
  | nil : Flats [] []
  | cons {d : DataW H} {v : List Value} {ds : List (DataW H)} {vs : List Value} : Flat d v → Flats ds vs → Flats (d :: ds) (v ++ vs)
end
section
variable {H : Type} {enc : TypeId × Value → H} {P : Program} {w : World} {base : Nat} {sp : Nat → Bool} {held : Bool}
theorem row_flat {r : List Value → Option (DataW H × List MemPlace)} (hr : ∀ cs d ps vs, r cs = some (d, ps) → Flat d vs → cs = vs) (k : Nat) : ∀ (m : Nat) (cs : List Value) (xs : List (DataW H × List MemPlace)) (vs : List Value), cs.length = m * k → xs.length = m →
    (∀ i < m, ∃ x, xs[i]? = some x ∧ r ((cs.drop (i * k)).take k) = some x) → Flats (xs.map (·.1)) vs → cs = vs
  | 0, cs, xs, vs, hc, hx, _, hf => by
    have h1 : cs = [] := List.eq_nil_of_length_eq_zero (by omega)
    have h2 : xs = [] := List.eq_nil_of_length_eq_zero hx
    subst h1; subst h2
    cases hf; rfl
  | m + 1, cs, [], vs, hc, hx, _, hf => by simp at hx
  | m + 1, cs, x :: xs, vs, hc, hx, h, hf => by
    rw [List.map_cons] at hf
    obtain ⟨d, ps⟩ := x
    cases hf
    rename_i v vs' h1 h2
    obtain ⟨x0, e0, r0⟩ := h 0 (by omega)
    simp at e0 r0
    subst e0
    have a1 : cs.take k = v := hr _ _ _ _ r0 h1
    have a2 : cs.drop k = vs' := row_flat hr k m (cs.drop k) xs vs' (by rw [List.length_drop, hc, Nat.add_mul]; omega) (by simpa using hx) (fun i hi => by
      obtain ⟨x, e, q⟩ := h (i + 1) (by omega)
      refine ⟨x, by simpa using e, ?_⟩
      rw [List.drop_drop]
      have : k + i * k = (i + 1) * k := by rw [Nat.add_mul]; omega
      rw [this]; exact q) h2
    rw [← a1, ← a2, List.take_append_drop]
theorem fields_flat {r : TypeId → List Value → Option (DataW H × List MemPlace)} {T : TypeId → Prop} (hr : ∀ t cs d ps vs, T t → r t cs = some (d, ps) → Flat d vs → cs = vs) (sz : TypeId → Nat) : ∀ (fs : List Field) (o : Nat) (cs : List Value) (xs : List (DataW H × List MemPlace)) (vs : List Value),
    (∀ f ∈ fs, T f.type) → (∀ (j : Nat) f, fs[j]? = some f → f.offset = o + ((fs.take j).map fun f => sz f.type).sum) → cs.length = o + (fs.map fun f => sz f.type).sum →
    fs.mapM (fun f => r f.type ((cs.drop f.offset).take (sz f.type))) = some xs → Flats (xs.map (·.1)) vs → cs.drop o = vs
  | [], o, cs, xs, vs, _, _, hc, hm, hf => by
    simp at hm; subst hm
    cases hf
    simp at hc
    rw [List.drop_of_length_le (by omega)]
  | f :: fs, o, cs, xs, vs, hT, ho, hc, hm, hf => by
    rw [List.mapM_cons] at hm
    simp only [Option.bind_eq_bind, Option.bind_eq_some_iff] at hm
    obtain ⟨x, hx, ys, hys, e⟩ := hm
    simp only [Option.pure_def, Option.some.injEq] at e
    subst e
    rw [List.map_cons] at hf
    obtain ⟨d, ps⟩ := x
    cases hf
    rename_i v vs' h1 h2
    have o0 : f.offset = o := by have := ho 0 f rfl; simpa using this
    have a1 : (cs.drop f.offset).take (sz f.type) = v := hr _ _ _ _ _ (hT f List.mem_cons_self) hx h1
    have a2 : cs.drop (o + sz f.type) = vs' := fields_flat hr sz fs (o + sz f.type) cs ys vs' (fun g hg => hT g (List.mem_cons_of_mem _ hg)) (fun j g hg => by
      have := ho (j + 1) g (by simpa using hg)
      simp only [List.take_succ_cons, List.map_cons, List.sum_cons] at this; omega) (by simp only [List.map_cons, List.sum_cons] at hc; omega) hys h2
    rw [← a1, ← a2, o0, ← List.drop_drop, List.take_append_drop]
theorem flat_cells {T : TypeId → Prop} (K : Kids P T) : ∀ (n : Nat) (t : TypeId) (cs : List Value) (d : DataW H) (ps : List MemPlace) (vs : List Value), T t → DataW.trod enc P w base sp held n t cs = some (d, ps) → Flat d vs → cs = vs := by
  intro n
  induction n with
  | zero => intro t cs d ps vs _ h; simp [DataW.trod] at h
  | succ n ih =>
    intro t cs d ps vs hT h hf
    rw [DataW.trod_step] at h
    unfold DataW.trodStep at h
    cases hf with
    | int k m =>
      split at h
      case h_2 =>
        split at h
        · rename_i hc
          simp only [Option.some.injEq, Prod.mk.injEq, DataW.lit.injEq, Lit.int.injEq] at h
          obtain ⟨⟨rfl, rfl⟩, _⟩ := h
          rw [hc.1]
        · cases h
      all_goals first
        | (simp at h; done)
        | (exfalso; revert h; (repeat' split) <;> simp; done)
        | (exfalso; simp only [Option.map_eq_some_iff, Option.bind_eq_some_iff] at h; (try obtain ⟨_, _, h⟩ := h); simp at h; done)
        | (exfalso; split at h <;> simp [Option.bind_eq_some_iff] at h; done)
    | agg hfs =>
      split at h
      case h_9 fs hu =>
        obtain ⟨k1, k2, k3⟩ := K.struct hT hu
        split at h
        · rename_i hl
          simp only [Option.map_eq_some_iff, Prod.mk.injEq, DataW.agg.injEq] at h
          obtain ⟨xs, hm, e1, _⟩ := h
          subst e1
          have := fields_flat (r := DataW.trod enc P w base sp held n) ih (fun t => P.cellsOf t) fs.toList 0 _ xs vs k1 (fun j f hj => by rw [k3 j f hj]; simp) (by rw [hl, k2]; simp) hm hfs
          simpa using this
        · cases h
      case h_10 m e hu =>
        obtain ⟨k1, k2⟩ := K.array hT hu
        split at h
        · rename_i hl
          simp only [Option.map_eq_some_iff, Prod.mk.injEq, DataW.agg.injEq] at h
          obtain ⟨xs, hm, e1, _⟩ := h
          subst e1
          have hxl : xs.length = m := by simpa using Lib.mapM_length hm
          refine row_flat (r := DataW.trod enc P w base sp held n e) (fun cs d ps vs => ih e cs d ps vs k1) (P.cellsOf e) m _ xs vs (by rw [hl, k2]) hxl (fun i hi => ?_) hfs
          obtain ⟨b, hb, hq⟩ := Lib.mapM_at hm i i (by simp [hi])
          exact ⟨b, hb, hq⟩
        · cases h
      case h_6 =>
        exfalso
        simp only [Option.map_eq_some_iff] at h
        obtain ⟨_, _, h⟩ := h
        simp at h
      case h_8 =>
        exfalso
        simp only at h
        split at h
        · simp only [Option.bind_eq_some_iff, Option.map_eq_some_iff] at h
          obtain ⟨_, _, _, _, h⟩ := h
          simp at h
        · cases h
      case h_12 =>
        exfalso
        split at h
        · simp at h
        · simp only [Option.map_eq_some_iff] at h
          obtain ⟨_, _, h⟩ := h
          simp at h
        · cases h
      case h_14 =>
        exfalso
        split at h
        · split at h
          · simp only [Option.bind_eq_some_iff] at h
            obtain ⟨_, _, h⟩ := h
            split at h
            · simp at h
            · cases h
          · cases h
        · cases h
      all_goals first
        | (simp at h; done)
        | (exfalso; revert h; (repeat' split) <;> simp; done)
end
/-- What a listed variable of whole numbers holds. -/
theorem laid_cells {P : Program} (K : TypesOk P) {W : World} {name : String} {d : DataW Unit} {g : Nat} {t : TypeId} {vs : List Value} (hg : P.globalNamed name = some g) (hty : (P.globals[g]?).map (·.type) = some t) (hT : t < P.types.size) (hf : Flat d vs) :
    ∀ {laid : List (String × DataW Unit)} {ps : List MemPlace}, DataW.LaidVars P W laid ps → (name, d) ∈ laid → ∃ C u lo hi, W.heap[g]? = some (.cells C u (lo, hi)) ∧ C.toList = vs
  | [], ps, _, hm => by cases hm
  | (n, e) :: r, ps, ⟨g', t', cs, fuel, p, q, h1, h2, h3, h4, h5, h6⟩, hm => by
    rcases List.mem_cons.1 hm with hm | hm
    · cases hm
      obtain rfl := Option.some.inj (hg.symm.trans h1)
      obtain rfl := Option.some.inj (hty.symm.trans h2)
      have hcs := flat_cells (kids_rows K.laid K.maps) fuel t cs.toList d p vs hT h4 hf
      simp only [World.var?, hg, Option.bind_some] at h3
      split at h3
      · rename_i c u fr hb
        cases h3
        exact ⟨cs, u, fr.1, fr.2, hb, hcs⟩
      · cases h3
    · exact laid_cells K hg hty hT hf h5 hm
end Go.LawPost
namespace Go.LawPost
open Go
/-! ### arguments by signs -/
theorem cell_one {P : Program} {W : World} {r : Reach} {base : Nat} {t : TypeId} {v : Value} (h : Cell.okWide P W r base t v) : v.oneCell' = true := by
  cases v with
  | agg a => cases hu : P.underlying t with
    | none => simp [Cell.okWide, Cell.ok, hu] at h
    | some d => cases d <;> simp [Cell.okWide, Cell.ok, hu] at h
  | tuple a => cases hu : P.underlying t with
    | none => simp [Cell.okWide, Cell.ok, hu] at h
    | some d => cases d <;> simp [Cell.okWide, Cell.ok, hu] at h
  | _ => rfl
theorem row_one {P : Program} {W : World} {r : Reach} {base : Nat} {t : TypeId} {cs : Array Value} (h : Row.okWide P W r base t cs) : ∀ v ∈ cs.toList, v.oneCell' = true := by
  obtain ⟨ts, _, _, hall⟩ := h
  intro v hv
  obtain ⟨i, hi, rfl⟩ := List.getElem_of_mem hv
  obtain ⟨u, _, hc⟩ := hall i (cs.toList[i]) (by simp at hi; simp [hi])
  exact cell_one hc
/-- A struct among the arguments. -/
theorem struct_arg {P : Program} {W : World} {r : Reach} {base : Nat} {t : TypeId} {fs : Array Field} {v : Value} (hu : P.underlying t = some (.struct fs)) (h : Value.okWide P W r base t v) : ∃ cs, v = .agg cs ∧ cs.size = P.cellsOf t ∧ ∀ x ∈ cs.toList, x.oneCell' = true := by
  unfold Value.okWide at h
  rw [hu] at h
  obtain ⟨cs, h1, h2, h3⟩ := h
  exact ⟨cs, h1, h2, row_one h3⟩
def symRow : Nat → Nat → List Mill.AV
  | _, 0 => []
  | k, n + 1 => .sym k :: symRow (k + 1) n
abbrev symsOf (L : List Value) (h : ∀ v ∈ L, v.oneCell' = true) : Mill.Syms where
  val i := (L[i]?).getD (.bool false)
  one i := by
    cases hi : L[i]? with
    | none => rfl
    | some v => exact h v (List.mem_of_getElem? hi)
theorem mid {L A B C : List Value} (e : L = A ++ (B ++ C)) {k : Nat} (hA : A.length = k) {j : Nat} {v : Value} (h : B[j]? = some v) : L[k + j]? = some v := by
  subst e; subst hA
  have hlt := (List.getElem?_eq_some_iff.1 h).1
  rw [List.getElem?_append_right (by omega), Nat.add_sub_cancel_left, List.getElem?_append_left hlt]
  exact h
theorem symRow_Gs {L : List Value} {h : ∀ v ∈ L, v.oneCell' = true} {e : Mill.Env} : ∀ (l : List Value) (k : Nat), (∀ (j : Nat) v, l[j]? = some v → L[k + j]? = some v) → @Mill.Gs (symsOf L h) e (symRow k l.length) l
  | [], k, _ => by simp [symRow, Mill.Gs]
  | v :: l, k, hl => by
    letI := symsOf L h
    simp only [List.length_cons, symRow, Mill.Gs]
    refine ⟨v, l, rfl, ?_, symRow_Gs l (k + 1) fun j u hj => ?_⟩
    · have h0 := hl 0 v rfl
      show v = (L[k]?).getD (.bool false)
      rw [Nat.add_zero] at h0
      rw [h0]; rfl
    · have := hl (j + 1) u (by simpa using hj)
      rw [show k + 1 + j = k + (j + 1) by omega]; exact this
theorem sym_G {L : List Value} {h : ∀ v ∈ L, v.oneCell' = true} {e : Mill.Env} {k : Nat} {v : Value} (hk : L[k]? = some v) : @Mill.G (symsOf L h) e (.sym k) v := by
  letI := symsOf L h
  show v = (L[k]?).getD (.bool false)
  rw [hk]; rfl
end Go.LawPost
