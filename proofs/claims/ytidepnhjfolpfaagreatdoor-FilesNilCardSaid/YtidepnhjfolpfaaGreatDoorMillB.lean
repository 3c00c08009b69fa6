/- The mill: a run of Go code that is reckoned ahead in the kernel, and its soundness. Conditions: none. Part B. -/
import Derived.Test.YtidepnhjfolpfaaGreatDoorMillA
import Derived.Laws.Append
set_option linter.unusedSimpArgs false
set_option linter.unusedVariables false
set_option linter.unusedSectionVars false
noncomputable section
namespace Go.Mill
open Go
variable [Syms]

theorem RH.drew {W0 : World} {e : Env} {H : List AO} {w : World} (r : RH W0 e H w) (n : Nat) : RH W0 e H { w with drawn := n } :=
  ⟨r.len, fun i o b s h h' => (r.ob i o b s h h').mono (Env.le_refl _) rfl, r.inj, r.lo, r.size, r.kept, r.same⟩

structure ElemT.Ok (P : Program) (t : TypeId) (E : ElemT) : Prop where
  hu : P.underlying t = some (.slice E.e)
  hi : P.info? E.e = some E.i
  hz : E.i.zero = some E.z
  pos : 1 ≤ E.i.bytes
  zlen : E.z.cells.size = E.i.size
theorem elemT_ok {P : Program} {t : TypeId} {E : ElemT} (h : elemT P t = some E) : E.Ok P t := by
  unfold elemT at h
  split at h
  case h_2 => cases h
  rename_i el hu
  split at h
  case h_2 => cases h
  rename_i i hi
  split at h
  case h_2 => cases h
  rename_i z hz
  split at h
  case isFalse => cases h
  rename_i hc
  simp only [Option.some.injEq] at h; subst h
  simp only [Bool.and_eq_true, Nat.ble_eq] at hc
  exact ⟨hu, hi, hz, hc.1, Nat.eq_of_beq_eq_true hc.2⟩
theorem zeroCells_size (z : Array Value) (n : Nat) : (Builtin.zeroCells z n).size = n * z.size := by simp [Builtin.zeroCells]

theorem append_grow {P : Program} {w : World} {t xt ty : TypeId} {E : ElemT} (ok : E.Ok P t) {d : TypeDesc} (hd : P.underlying xt = some d) (hnint : ∀ k, d ≠ .int k) {base : Option Addr} {len cap n : Nat} {v : Value}
    (hlen : (Builtin.lenOf v).run P w = .ok n w) (hcap : ¬ len + n ≤ cap) (hb : (len + n) * E.by_ ≤ 140737488355328) {old new : Array Value}
    (hold : (Builtin.firstCells E.k len (.slice base len cap)).run P { w with drawn := w.drawn + 1 } = .ok old { w with drawn := w.drawn + 1 })
    (hnew : (Builtin.firstCells E.k n v).run P { w with drawn := w.drawn + 1 } = .ok new { w with drawn := w.drawn + 1 }) :
    ∃ (c : Nat) (rest : List Value), len + n ≤ c ∧ rest.length + (len + n) * E.k = c * E.k ∧
      (Builtin.append_ #[t, xt] ty #[.slice base len cap, v]).run P w =
        .ok (.slice (some ⟨w.heap.size, 0, none⟩) (len + n) c) { w with drawn := w.drawn + 1, heap := w.heap.push (.cells (old ++ new ++ rest.toArray) E.e) } := by
  have hnn : (len + n : Nat) ≤ 140737488355328 := Nat.le_trans (Nat.le_mul_of_pos_right _ ok.pos) hb
  have hcapn : Builtin.nextslicecap (len + n) cap * E.i.bytes ≤ 281474976710656 := growslice_fits (need := len + n) (old := cap) (bytes := E.i.bytes) (by omega) hb
  refine ⟨grownCap w (len + n) cap E.e, (Builtin.zeroCells E.z.cells (grownCap w (len + n) cap E.e - (len + n))).toList, ?_, ?_, ?_⟩
  · show len + n ≤ len + n + _; omega
  · have : len + n ≤ grownCap w (len + n) cap E.e := by show len + n ≤ len + n + _; omega
    rw [Array.length_toList, zeroCells_size, ok.zlen, ← Nat.add_mul]
    congr 1; omega
  · have hn : ¬ (len + n ≤ cap) := hcap
    have h63' : ¬ (9223372036854775807 < ((len : Int) + (n : Int))) := by omega
    have h48' : ¬ (281474976710656 < Builtin.nextslicecap (len + n) cap * E.i.bytes) := by omega
    have hold' : (Builtin.firstCells E.i.size len (.slice base len cap)).run P w.drew = .ok old w.drew := hold
    have hnew' : (Builtin.firstCells E.i.size n v).run P w.drew = .ok new w.drew := hnew
    have hm : (match d with | .int _ => true | _ => false) = false := by cases d <;> first | rfl | exact absurd rfl (hnint _)
    simp [Builtin.append_, run_underlying ok.hu, run_underlying hd, sizeOf, typeInfo, zeroValue, ok.hi, ok.hz, hlen, hn, h63', h48', Question.forced, hold', hnew', newRow, grownCap, Result.andThen, hm]
    exact ⟨rfl, rfl, rfl⟩

theorem append_fit {P : Program} {w w' : World} {t xt ty : TypeId} {E : ElemT} (ok : E.Ok P t) {d : TypeDesc} (hd : P.underlying xt = some d) (hnint : ∀ k, d ≠ .int k) {a : Addr} {len cap n : Nat} {v : Value}
    (hlen : (Builtin.lenOf v).run P w = .ok n w) (hcap : len + n ≤ cap) {new : Array Value} (hnew : (Builtin.firstCells E.k n v).run P w = .ok new w)
    (hst : (storeCells (a.add (len * E.k)) new.toList).run P w = .ok () w') :
    (Builtin.append_ #[t, xt] ty #[.slice (some a) len cap, v]).run P w = .ok (.slice (some a) (len + n) cap) w' := by
  have hm : (match d with | .int _ => true | _ => false) = false := by cases d <;> first | rfl | exact absurd rfl (hnint _)
  have hnew' : (Builtin.firstCells E.i.size n v).run P w = .ok new w := hnew
  have hst' : (storeCells (a.add (len * E.i.size)) new.toList).run P w = .ok () w' := hst
  simp [Builtin.append_, run_underlying ok.hu, run_underlying hd, sizeOf, typeInfo, zeroValue, ok.hi, ok.hz, hlen, hcap, hnew', hst', Result.andThen, hm]
theorem append_none {P : Program} {w : World} {t xt ty : TypeId} {E : ElemT} (ok : E.Ok P t) {d : TypeDesc} (hd : P.underlying xt = some d) (hnint : ∀ k, d ≠ .int k) {v : Value}
    (hlen : (Builtin.lenOf v).run P w = .ok 0 w) {new : Array Value} (hnew : (Builtin.firstCells E.k 0 v).run P w = .ok new w) :
    (Builtin.append_ #[t, xt] ty #[.slice none 0 0, v]).run P w = .ok (.slice none 0 0) w := by
  have hm : (match d with | .int _ => true | _ => false) = false := by cases d <;> first | rfl | exact absurd rfl (hnint _)
  have hnew' : (Builtin.firstCells E.i.size 0 v).run P w = .ok new w := hnew
  simp [Builtin.append_, run_underlying ok.hu, run_underlying hd, sizeOf, typeInfo, zeroValue, ok.hi, ok.hz, hlen, hnew', Result.andThen, hm]
theorem notZeros_spec {P : Program} {ts : List TypeId} {t : TypeId} {r : List TypeId} (h : notZeros P ts = true) (ht : ts = t :: r) : ∃ x d, ts = [t, x] ∧ P.underlying x = some d ∧ ∀ k, d ≠ .int k := by
  subst ht
  unfold notZeros at h
  split at h
  · rename_i a x heq
    cases heq
    split at h
    · cases h
    · rename_i d hd hu
      exact ⟨x, d, rfl, hu, hd⟩
    · cases h
  · cases h

/-- A row that an append has made anew. -/
theorem grown_row {W0 : World} {e : Env} {H : List AO} {w : World} (rh : RH W0 e H w) {E : ElemT} {cs : List AV} {old new : Array Value} {rest : List Value} {len c n m : Nat} (g : Gs e cs (old.toList ++ new.toList)) (hc : len + n ≤ c)
    (hl : cs.length = (len + n) * E.k) (hr : rest.length + (len + n) * E.k = c * E.k) :
    ∃ e', e.le e' ∧ G e' (.slu H.length 0 (len + n) E.k) (.slice (some ⟨w.heap.size, 0, none⟩) (len + n) c) ∧
      RH W0 e' (H ++ [.cells cs E.e true false]) { w with drawn := m, heap := w.heap.push (.cells (old ++ new ++ rest.toArray) E.e) } := by
  have hsz : (old ++ new ++ rest.toArray).size = c * E.k := by
    have := g.length
    simp only [List.length_append, Array.length_toList] at this
    simp; omega
  refine ⟨_, Env.le_snoc _ (w.heap.size, (old ++ new ++ rest.toArray).size), ?_, ?_⟩
  · simp only [G]
    exact ⟨_, _, c, snoc_last rh.len, hc, by rw [hsz]; simp, rfl⟩
  · exact (new_cells rh cs E.e (old ++ new ++ rest.toArray) (old.toList ++ new.toList) rest (by simp) g true (by simp)).drew m

theorem aappend_sound {P : Program} {W0 : World} {e : Env} {H H' : List AO} {w : World} (rh : RH W0 e H w) {ts : List TypeId} {ty : TypeId} {s x z : AV} {u v : Value} (h : aappend P H ts s x = some (z, H')) (gs : G e s u) (gx : G e x v) :
    ∃ r e' w', e.le e' ∧ G e' z r ∧ (Builtin.append_ ts.toArray ty #[u, v]).run P w = .ok r w' ∧ RH W0 e' H' w' := by
  unfold aappend at h
  split at h
  case h_2 => cases h
  rename_i t tr
  simp only [Option.bind_eq_bind, Option.bind_eq_some_iff] at h
  obtain ⟨E, hE, ⟨n, new⟩, hrow, h⟩ := h
  have ok := elemT_ok hE
  split at h
  case isTrue => cases h
  rename_i hnz
  simp only [Bool.not_eq_true, Bool.not_eq_false', Bool.and_eq_true] at hnz
  obtain ⟨hnz, hone⟩ := hnz
  obtain ⟨xt, d, hts, hd, hnint⟩ := notZeros_spec hnz rfl
  rw [hts]
  have hrs := fun m => rowOf_sound (P := P) (rh.drew m) hrow gx
  obtain ⟨hl, hlen, hfc⟩ := rowOf_sound (P := P) rh hrow gx
  obtain ⟨nw, gnw, hnw⟩ := hfc n (Nat.le_refl _)
  rw [← hl, List.take_length] at gnw
  have hlnw : nw.size = n * E.k := by rw [← hl, ← gnw.length]; simp
  -- the growing way
  have growing : ∀ (base : Option Addr) (len cap : Nat) (olds : List AV) (z : AV) (H' : List AO), ¬ len + n ≤ cap → olds.length = len * E.k →
      (∀ m, ∃ o : Array Value, Gs e olds o.toList ∧ (Builtin.firstCells E.k len (.slice base len cap)).run P { w with drawn := m } = .ok o { w with drawn := m }) →
      (if Nat.ble ((len + n) * E.by_) 140737488355328 then some (AV.slu H.length 0 (len + n) E.k, H ++ [AO.cells (olds ++ new) E.e true false]) else none) = some (z, H') →
      ∃ r e' w', e.le e' ∧ G e' z r ∧ (Builtin.append_ [t, xt].toArray ty #[.slice base len cap, v]).run P w = .ok r w' ∧ RH W0 e' H' w' := by
    intro base len cap olds z H' hcap hlo hold hg
    split at hg
    case isFalse => cases hg
    rename_i hb
    simp only [Option.some.injEq, Prod.mk.injEq] at hg
    obtain ⟨rfl, rfl⟩ := hg
    simp only [Nat.ble_eq] at hb
    obtain ⟨o, go, ho⟩ := hold (w.drawn + 1)
    obtain ⟨_, hlen2, hfc2⟩ := hrs (w.drawn + 1)
    obtain ⟨nw2, gnw2, hnw2⟩ := hfc2 n (Nat.le_refl _)
    rw [← hl, List.take_length] at gnw2
    obtain ⟨c, rest, hc, hrest, hrun⟩ := append_grow (ty := ty) ok hd hnint hlen hcap hb ho hnw2
    obtain ⟨e', hle, gz, rh'⟩ := grown_row (m := w.drawn + 1) rh (E := E) (go.append gnw2) hc (by simp [hlo, hl, Nat.add_mul]) hrest
    exact ⟨_, e', _, hle, gz, hrun, rh'⟩
  split at h
  -- nil
  · split at h
    · rename_i hn0
      have hn0 := Nat.eq_of_beq_eq_true hn0
      subst hn0
      simp only [Option.some.injEq, Prod.mk.injEq] at h
      obtain ⟨rfl, rfl⟩ := h
      simp only [G] at gs; subst gs
      exact ⟨_, e, w, Env.le_refl _, rfl, append_none ok hd hnint hlen hnw, rh⟩
    · rename_i hn0
      simp only [G] at gs; subst gs
      have hn0' : n ≠ 0 := fun h0 => hn0 (by subst h0; rfl)
      have := growing none 0 0 [] z H' (by omega) (by simp) (fun m => ⟨#[], by simp [Gs], by simp [Builtin.firstCells]⟩) (by simpa using h)
      exact this
  -- a row whose capacity is known
  · rename_i i off len cap
    split at h
    case h_2 => cases h
    rename_i cs ct sp ro hi
    simp only [G] at gs
    obtain ⟨b, sz, he, rfl⟩ := gs
    split at h
    · rename_i hcap
      simp only [Nat.ble_eq] at hcap
      split at h
      case isFalse => cases h
      rename_i hc
      simp only [Bool.and_eq_true, Bool.not_eq_true', Nat.ble_eq] at hc
      obtain ⟨hro, hle⟩ := hc
      subst hro
      simp only [Option.some.injEq, Prod.mk.injEq] at h
      obtain ⟨rfl, rfl⟩ := h
      obtain ⟨w', hst, rh'⟩ := store_block (P := P) (off := off + len * E.k) rh hi he gnw hone (by rw [hl]; rw [Nat.add_mul] at hle; omega)
      exact ⟨_, e, w', Env.le_refl _, ⟨b, sz, he, rfl⟩, append_fit ok hd hnint hlen hcap hnw (by rw [Addr.add_lit]; exact hst), rh'⟩
    · rename_i hcap
      simp only [Nat.ble_eq] at hcap
      split at h
      case isFalse => cases h
      rename_i hle
      simp only [Nat.ble_eq] at hle
      refine growing (some ⟨b, off, none⟩) len cap ((cs.drop off).take (len * E.k)) z H' hcap (by simp; omega) (fun m => ?_) h
      obtain ⟨l, gl, hcell⟩ := block_cell (rh.drew m) hi he
      refine ⟨((l.drop off).take (len * E.k)).toArray, by simpa using (gl.drop off).take _, ?_⟩
      simp only [Builtin.firstCells]
      exact load_cells hcell (by rw [gl.length]; omega)
  -- a row whose capacity is not known
  · rename_i i off len k
    split at h
    case h_2 => cases h
    rename_i cs ct sp ro hi
    split at h
    case isTrue => cases h
    rename_i hkr
    have hkr' : (Nat.beq k E.k && (!ro && Nat.ble 1 k)) = true := by
      cases hb : (Nat.beq k E.k && (!ro && Nat.ble 1 k)) with
      | true => rfl
      | false => rw [hb] at hkr; exact absurd rfl hkr
    simp only [Bool.and_eq_true, Bool.not_eq_true', Nat.ble_eq] at hkr'
    obtain ⟨hk, hro, hk1⟩ := hkr'
    have hk := Nat.eq_of_beq_eq_true hk
    subst hk hro
    simp only [G] at gs
    obtain ⟨b, sz, c, he, hlc, hoff, rfl⟩ := gs
    obtain ⟨C, lo, hi', hC, hCs, ⟨vs, ex, hCv, gvs, hsp⟩, hfz⟩ := rh.ob _ _ _ _ hi he
    have hCl : vs.length + ex.length = sz := by rw [← hCs, ← Array.length_toList, hCv, List.length_append]
    have hvl := gvs.length
    split at h
    · rename_i hle
      simp only [Nat.ble_eq] at hle
      simp only [Option.some.injEq, Prod.mk.injEq] at h
      obtain ⟨rfl, rfl⟩ := h
      obtain ⟨w', hst, rh'⟩ := store_block (P := P) (off := off + len * E.k) rh hi he gnw hone (by rw [hl]; rw [Nat.add_mul] at hle; omega)
      have hfit : len + n ≤ c := by
        have : (len + n) * E.k ≤ c * E.k := by omega
        exact Nat.le_of_mul_le_mul_right this hk1
      exact ⟨_, e, w', Env.le_refl _, ⟨b, sz, c, he, hfit, hoff, rfl⟩, append_fit ok hd hnint hlen hfit hnw (by rw [Addr.add_lit]; exact hst), rh'⟩
    · split at h
      case isFalse => cases h
      rename_i hnle hcond
      simp only [Bool.and_eq_true, Nat.ble_eq] at hcond
      obtain ⟨⟨⟨ho, hcl⟩, hb⟩, hct⟩ := hcond
      have ho := Nat.eq_of_beq_eq_true ho
      have hcl := Nat.eq_of_beq_eq_true hcl
      have hct := Nat.eq_of_beq_eq_true hct
      subst ho hct
      simp only [Option.some.injEq, Prod.mk.injEq] at h
      obtain ⟨rfl, rfl⟩ := h
      by_cases hfit : len + n ≤ c
      · have hmul : (len + n) * E.k ≤ c * E.k := Nat.mul_le_mul_right _ hfit
        rw [Nat.add_mul] at hmul
        obtain ⟨C', w', h1, h2, h3, h4, h5, h6⟩ := run_storeCells (P := P) (b := b) (off := 0 + len * E.k) nw.toList 0 C w hC (by simp; omega) (by rw [hCs]; exact (hfz rfl).imp_right Nat.le_of_eq) (Gs.one hone gnw)
        have hC' : C'.toList = (vs ++ nw.toList) ++ C.toList.drop (len * E.k + nw.size) := by
          rw [h5, spliceV, hCv]
          simp only [Nat.zero_add, Nat.add_zero, Array.length_toList]
          rw [List.take_append_of_le_length (by omega), List.take_of_length_le (by omega), List.append_assoc]
        have hC'l : C'.size = sz := by
          rw [← Array.length_toList, hC']
          simp [hCs]; omega
        have rh' := rh.move i b sz he (.cells (cs ++ new) E.e true false) _ hi (by simp) w' h2 h3 (fun e' hle' => ⟨C', lo, hi', h4, hC'l, ⟨_, _, hC', (gvs.append gnw).mono hle', by simp⟩, hfz⟩) h6
        refine ⟨_, _, w', Env.le_snoc _ (b, sz), ?_, append_fit ok hd hnint hlen hfit hnw (by rw [Addr.add_lit]; exact h1), rh'⟩
        simp only [G]
        exact ⟨b, sz, c, snoc_last rh.len, hfit, hoff, rfl⟩
      · have hold : ∀ m, ∃ o : Array Value, Gs e cs o.toList ∧ (Builtin.firstCells E.k len (.slice (some ⟨b, 0, none⟩) len c)).run P { w with drawn := m } = .ok o { w with drawn := m } := fun m => by
          obtain ⟨l, gl, hcell⟩ := block_cell (rh.drew m) hi he
          refine ⟨((l.drop 0).take (len * E.k)).toArray, ?_, ?_⟩
          · have : (l.drop 0).take (len * E.k) = l := by
              have := gl.length
              rw [List.drop_zero, List.take_of_length_le (by omega)]
            show Gs e cs ((l.drop 0).take (len * E.k))
            rw [this]; exact gl
          · simp only [Builtin.firstCells]
            exact load_cells hcell (by rw [gl.length]; omega)
        obtain ⟨o, go, ho⟩ := hold (w.drawn + 1)
        obtain ⟨_, hlen2, hfc2⟩ := hrs (w.drawn + 1)
        obtain ⟨nw2, gnw2, hnw2⟩ := hfc2 n (Nat.le_refl _)
        rw [← hl, List.take_length] at gnw2
        obtain ⟨c', rest, hc', hrest, hrun⟩ := append_grow (ty := ty) ok hd hnint hlen hfit hb ho hnw2
        obtain ⟨e', hle', gz, rh'⟩ := grown_row (m := w.drawn + 1) (rh.forget i) (E := E) (go.append gnw2) hc' (by simp [hcl, hl, Nat.add_mul]) hrest
        exact ⟨_, e', _, hle', by simpa using gz, hrun, rh'⟩
  · cases h
end Go.Mill
end

noncomputable section
namespace Go.Mill
open Go
variable [Syms]

/-! ### copy -/
def acopy (P : Program) (H : List AO) (ts : List TypeId) (d s : AV) : Option (AV × List AO) :=
  match ts with
  | t :: _ => do
    let E ← elemT P t
    let (n, cells) ← rowOf H E.k s
    if !(cells.all AV.one) then none else
    match d with
    | .v (.slice none 0 0) => some (.v (.int .i64 0), H)
    | .sl i off len _ | .slu i off len _ => match H[i]? with
      | some (.cells cs ct sp false) =>
        let m := Nat.min n len
        if Nat.ble (off + m * E.k) cs.length then some (.v (.int .i64 m), H.set i (.cells (splice cs off (cells.take (m * E.k))) ct sp false)) else none
      | _ => none
    | _ => none
  | [] => none
theorem all_take {xs : List AV} {p : AV → Bool} (h : xs.all p = true) (n : Nat) : (xs.take n).all p = true := by
  rw [List.all_eq_true] at *
  exact fun x hx => h x (List.mem_of_mem_take hx)
theorem acopy_sound {P : Program} {W0 : World} {e : Env} {H H' : List AO} {w : World} (rh : RH W0 e H w) {ts : List TypeId} {ty : TypeId} {d s z : AV} {u v : Value} (h : acopy P H ts d s = some (z, H')) (gd : G e d u) (gs : G e s v) :
    ∃ r w', G e z r ∧ (Builtin.copy_ ts.toArray ty #[u, v]).run P w = .ok r w' ∧ RH W0 e H' w' := by
  unfold acopy at h
  split at h
  case h_2 => cases h
  rename_i t tr
  simp only [Option.bind_eq_bind, Option.bind_eq_some_iff] at h
  obtain ⟨E, hE, ⟨n, cells⟩, hrow, h⟩ := h
  have ok := elemT_ok hE
  split at h
  case isTrue => cases h
  rename_i hone
  have hone : cells.all AV.one = true := by
    cases hb : cells.all AV.one with
    | true => rfl
    | false => rw [hb] at hone; exact absurd rfl hone
  obtain ⟨hl, hlen, hfc⟩ := rowOf_sound (P := P) rh hrow gs
  have hsz : (sizeOf E.e).run P w = .ok E.k w := by simp [sizeOf, typeInfo, ok.hi]
  have row : ∀ (i off len : Nat) (cap : Nat) (b sz : Nat), e[i]? = some (b, sz) → u = .slice (some ⟨b, off, none⟩) len cap →
      (match H[i]? with
      | some (.cells cs ct sp false) =>
        if Nat.ble (off + Nat.min n len * E.k) cs.length then some (AV.v (.int .i64 (Nat.min n len)), H.set i (.cells (splice cs off (cells.take (Nat.min n len * E.k))) ct sp false)) else none
      | _ => none) = some (z, H') →
      ∃ r w', G e z r ∧ (Builtin.copy_ (t :: tr).toArray ty #[u, v]).run P w = .ok r w' ∧ RH W0 e H' w' := by
    intro i off len cap b sz he hu h
    split at h
    case h_2 => cases h
    rename_i cs ct sp hi
    split at h
    case isFalse => cases h
    rename_i hle
    simp only [Nat.ble_eq] at hle
    simp only [Option.some.injEq, Prod.mk.injEq] at h
    obtain ⟨rfl, rfl⟩ := h
    obtain ⟨l, gl, hrun⟩ := hfc (Nat.min n len) (Nat.min_le_left _ _)
    have hlt : (cells.take (Nat.min n len * E.k)).length = Nat.min n len * E.k := by
      rw [List.length_take, hl]
      exact Nat.min_eq_left (Nat.mul_le_mul_right _ (Nat.min_le_left _ _))
    obtain ⟨w', hst, rh'⟩ := store_block (P := P) (off := off) rh hi he gl (all_take hone _) (by rw [hlt]; exact hle)
    refine ⟨_, w', rfl, ?_, rh'⟩
    subst hu
    simp only [Builtin.copy_, Sem.run_bind]
    simp [run_underlying ok.hu, hlen, hsz, hrun, hst, Result.andThen, goInt]
  split at h
  · simp only [Option.some.injEq, Prod.mk.injEq] at h
    obtain ⟨rfl, rfl⟩ := h
    simp only [G] at gd; subst gd
    obtain ⟨l, gl, hrun⟩ := hfc 0 (by omega)
    refine ⟨_, w, rfl, ?_, rh⟩
    have h0 : Nat.min n 0 = 0 := Nat.min_eq_right (by omega)
    simp only [Builtin.copy_, Sem.run_bind]
    simp [run_underlying ok.hu, hlen, hsz, hrun, Result.andThen, goInt, h0]
  · rename_i i off len cap
    simp only [G] at gd
    obtain ⟨b, sz, he, hu⟩ := gd
    exact row i off len cap b sz he hu h
  · rename_i i off len k
    simp only [G] at gd
    obtain ⟨b, sz, c, he, _, _, hu⟩ := gd
    exact row i off len c b sz he hu h
  · cases h

/-! ### rows that are made -/
def row0 (z : Array Value) (n : Nat) : List Value := ((Array.range n).map (z[· % z.size]!)).toList
def abuildSlice (P : Program) (T : Tm) (H : List AO) (t : TypeId) (len : Nat) (parts : Array (Nat × Operand)) : Option (AV × List AO) := do
  let E ← elemT P t
  let ps ← aevals T parts.toList
  if !(Nat.ble (len * E.k) 16777216) then none else
  let cs ← afill (fun i => some (i * E.k, E.k)) ((row0 E.z.cells (len * E.k)).map .v) ps
  pure (.sl H.length 0 len len, H ++ [.cells cs E.e false false])
theorem run_zero' {P : Program} {t : TypeId} {E : ElemT} (ok : E.Ok P t) (w : World) : (zeroValue E.e).run P w = .ok E.z w := by simp [zeroValue, typeInfo, ok.hi, ok.hz, Result.andThen]
theorem run_size' {P : Program} {t : TypeId} {E : ElemT} (ok : E.Ok P t) (w : World) : (sizeOf E.e).run P w = .ok E.i.size w := by simp [sizeOf, typeInfo, ok.hi]
theorem new_row {W0 : World} {e : Env} {H : List AO} {w : World} (rh : RH W0 e H w) (cs : List AV) (t : TypeId) (C : Array Value) (len cap : Nat) (gs : Gs e cs C.toList) :
    ∃ e', e.le e' ∧ G e' (.sl H.length 0 len cap) (.slice (some ⟨w.heap.size, 0, none⟩) len cap) ∧ RH W0 e' (H ++ [.cells cs t false false]) { w with heap := w.heap.push (.cells C t) } := by
  refine ⟨_, Env.le_snoc _ _, ?_, new_cells rh cs t C C.toList [] (by simp) gs false (fun _ => rfl)⟩
  simp only [G]; exact ⟨_, _, snoc_last rh.len, rfl⟩
theorem abuildSlice_sound {P : Program} {W0 : World} {n : Nat} {e : Env} {T : Tm} {a : Act} {H H' : List AO} {w : World} (r : RT n e T a) (rh : RH W0 e H w) {t : TypeId} {len : Nat} {parts : Array (Nat × Operand)} {z : AV}
    (h : abuildSlice P T H t len parts = some (z, H')) :
    ∃ v e' w', e.le e' ∧ G e' z v ∧ (Instr.buildSlice t len (parts.map fun (i, x) => (i, a.eval x))).run P w = .ok v w' ∧ RH W0 e' H' w' := by
  simp only [abuildSlice, Option.bind_eq_bind, Option.bind_eq_some_iff] at h
  obtain ⟨E, hE, ps, hps, h⟩ := h
  have ok := elemT_ok hE
  split at h
  case isTrue => cases h
  rename_i hc
  have hc : (Nat.ble (len * E.k) 16777216) = true := by
    cases hb : (Nat.ble (len * E.k) 16777216) with
    | true => rfl
    | false => rw [hb] at hc; exact absurd rfl hc
  simp only [Bool.and_eq_true, Nat.ble_eq] at hc
  simp only [Option.bind_eq_some_iff, Option.pure_def, Option.some.injEq, Prod.mk.injEq] at h
  obtain ⟨cs, hf, rfl, rfl⟩ := h
  have gp := aevals_G r hps
  have gp' : Gp e ps (parts.map fun (i, x) => (i, a.eval x)).toList := by simpa using gp
  have gz : Gs e ((row0 E.z.cells (len * E.k)).map .v) ((Array.range (len * E.k)).map (E.z.cells[· % E.z.cells.size]!)).toList := Gs.exact _
  obtain ⟨l', hl, gl⟩ := afill_sound hf gp' gz
  obtain ⟨e', hle, gsl, rh'⟩ := new_row rh cs E.e l' len len gl
  refine ⟨_, e', _, hle, gsl, ?_, rh'⟩
  have hc2 : len * E.i.size ≤ 16777216 := hc
  have h1 : ¬ (len * E.i.size > 2 ^ 24) := by have : (2 : Nat) ^ 24 = 16777216 := rfl; omega
  simp only [Instr.buildSlice, Sem.run_bind, run_underlying ok.hu, Result.andThen, run_size' ok]
  rw [if_neg h1]
  by_cases h2 : len * E.i.size = 0
  · rw [if_pos h2]
    have h2' : len * E.k = 0 := h2
    have hl' : Instr.fill (fun i => some (i * E.i.size, E.i.size)) ((Array.range (len * E.i.size)).map fun x => (#[] : Array Value)[x % (#[] : Array Value).size]!) (parts.map fun x => (x.1, a.eval x.2)).toList = some l' := by
      have q0 : ∀ f : Nat → Value, (Array.range 0).map f = #[] := fun f => by simp
      rw [← hl, h2, q0, q0]
    simp only [Sem.run_bind, Sem.run_pure, Result.andThen]
    have hl2 := hl'
    simp only [hl2]
    simp [newRow, Result.andThen]
  · rw [if_neg h2]
    simp only [Sem.run_bind, Sem.run_pure, run_zero' ok, Result.andThen, hl]
    simp [newRow, Result.andThen]

def amakeSlice (P : Program) (T : Tm) (H : List AO) (t : TypeId) (l c : Operand) : Option (AV × List AO) := do
  let E ← elemT P t
  let l ← xnat T l
  let c ← xnat T c
  if !(Nat.ble l c && Nat.ble (c * E.by_) 1099511627776) then none else
  pure (.sl H.length 0 l c, H ++ [.cells ((row0 E.z.cells (c * E.k)).map .v) E.e false false])
theorem amakeSlice_sound {P : Program} {W0 : World} {n : Nat} {e : Env} {T : Tm} {a : Act} {H H' : List AO} {w : World} (r : RT n e T a) (rh : RH W0 e H w) {t : TypeId} {l c : Operand} {z : AV}
    (h : amakeSlice P T H t l c = some (z, H')) :
    ∃ v e' w', e.le e' ∧ G e' z v ∧ (Instr.makeSlice t (a.eval l) (a.eval c)).run P w = .ok v w' ∧ RH W0 e' H' w' := by
  simp only [amakeSlice, Option.bind_eq_bind, Option.bind_eq_some_iff] at h
  obtain ⟨E, hE, ln, hln, cn, hcn, h⟩ := h
  have ok := elemT_ok hE
  split at h
  case isTrue => cases h
  rename_i hc
  have hc : (Nat.ble ln cn && Nat.ble (cn * E.by_) 1099511627776) = true := by
    cases hb : (Nat.ble ln cn && Nat.ble (cn * E.by_) 1099511627776) with
    | true => rfl
    | false => rw [hb] at hc; exact absurd rfl hc
  simp only [Bool.and_eq_true, Nat.ble_eq] at hc
  obtain ⟨h1, h3⟩ := hc
  simp only [Option.pure_def, Option.some.injEq, Prod.mk.injEq] at h
  obtain ⟨rfl, rfl⟩ := h
  obtain ⟨k1, e1⟩ := xnat_eval r hln
  obtain ⟨k2, e2⟩ := xnat_eval r hcn
  have gz : Gs e ((row0 E.z.cells (cn * E.k)).map .v) ((Array.range (cn * E.k)).map (E.z.cells[· % E.z.cells.size]!)).toList := Gs.exact _
  obtain ⟨e', hle, gsl, rh'⟩ := new_row rh _ E.e _ ln cn gz
  refine ⟨_, e', _, hle, gsl, ?_, rh'⟩
  have hcb : cn ≤ 1099511627776 := Nat.le_trans (Nat.le_mul_of_pos_right _ ok.pos) h3
  have w1 : IntKind.i64.wrap (ln : Int) = ln := by simp [IntKind.wrap, IntKind.signed, IntKind.bits]; omega
  have w2 : IntKind.i64.wrap (cn : Int) = cn := by simp [IntKind.wrap, IntKind.signed, IntKind.bits]; omega
  have hb : cn * E.i.bytes ≤ 1099511627776 := h3
  have t1 : ¬ ((E.i.bytes : Int) * (cn : Int) > 2 ^ 48) := by
    have : (E.i.bytes : Int) * (cn : Int) = ((cn * E.i.bytes : Nat) : Int) := by rw [Nat.mul_comm]; simp
    rw [this]; have : (2 : Int) ^ 48 = 281474976710656 := rfl; omega
  have t2 : ¬ ((cn : Int) < 0) := by omega
  have t3 : ¬ ((ln : Int) < 0) := by omega
  have t4 : ¬ ((ln : Int) > (cn : Int)) := by omega
  simp only [Instr.makeSlice, Sem.run_bind, run_underlying ok.hu, Result.andThen, e1, e2, asInt, asIntOf, Sem.run_pure, typeInfo, run_program, ok.hi, w1, w2]
  have hif : (decide ((cn : Int) < 0) || decide ((E.i.bytes : Int) * (cn : Int) > 2 ^ 48) || decide ((ln : Int) < 0) || decide ((ln : Int) > (cn : Int))) = false := by
    have t1' : (E.i.bytes : Int) * (cn : Int) ≤ 281474976710656 := by have : (2 : Int) ^ 48 = 281474976710656 := rfl; omega
    simp [t1', t2, t3, t4]
  simp only [hif, Bool.false_eq_true, if_false, Sem.run_bind, run_askRoom, Result.andThen, run_size' ok, Int.toNat_natCast]
  by_cases hz0 : cn * E.i.size = 0
  · rw [if_pos hz0]
    have hz0' : cn * E.k = 0 := hz0
    simp only [Sem.run_bind, Sem.run_pure, Result.andThen, hz0, hz0']
    simp [newRow, Result.andThen]
    have q0 : ∀ f : Nat → Value, (Array.range 0).map f = #[] := fun f => by simp
    rw [q0, q0]
  · rw [if_neg hz0]
    simp only [Sem.run_bind, run_zero' ok, Result.andThen, Sem.run_pure]
    simp [newRow, Result.andThen]
end Go.Mill
end

noncomputable section
namespace Go.Mill
open Go
variable [Syms]

/-! ### maps -/
def keyable : TypeDesc → Bool
  | .int _ | .string | .bool => true
  | _ => false
/-- Where a key stands. -/
def afind (d : TypeDesc) (k : Value) : List (AV × AV × Nat) → Nat → Option (Option (Nat × AV))
  | [], _ => some none
  | (y, x, _) :: es, i => match AV.exact y with
    | some kv => match Instr.sameNow d k kv with
      | some true => some (some (i, x))
      | some false => afind d k es (i + 1)
      | none => none
    | none => none
theorem afind_sound {e : Env} {d : TypeDesc} {k : Value} : ∀ {es : List (AV × AV × Nat)} {l : List MapEntry} {i : Nat} {r : Option (Nat × AV)}, afind d k es i = some r → Es e es l →
    match r with
    | none => Instr.findNow d k l i = some none
    | some (j, x) => ∃ v, Instr.findNow d k l i = some (some (j, v)) ∧ G e x v ∧ i ≤ j ∧ ∃ c y b, l[j - i]? = some c ∧ c.val = v ∧ es[j - i]? = some (y, x, b) ∧ Instr.sameNow d k c.key = some true
  | [], l, i, r, h, g => by
    simp only [afind, Option.some.injEq] at h; subst h
    simp only [Es] at g; subst g; rfl
  | (y, x, b) :: es, l, i, r, h, g => by
    simp only [Es] at g
    obtain ⟨c, l', rfl, gk, gv, hb, ge⟩ := g
    simp only [afind] at h
    split at h
    case h_2 => cases h
    rename_i kv hkv
    have hk := exact_G hkv gk
    split at h
    · rename_i hs
      simp only [Option.some.injEq] at h; subst h
      refine ⟨c.val, ?_, gv, Nat.le_refl _, c, y, b, by simp, rfl, by simp, by rw [hk]; exact hs⟩
      simp [Instr.findNow, hk, hs]
    · rename_i hs
      have := afind_sound h ge
      cases r with
      | none => simp only at this ⊢; simp [Instr.findNow, hk, hs, this]
      | some p =>
        obtain ⟨j, x'⟩ := p
        simp only at this ⊢
        obtain ⟨v, h1, h2, h3, c', y', b', h4, h5, h6, h7⟩ := this
        refine ⟨v, by simp [Instr.findNow, hk, hs, h1], h2, by omega, c', y', b', ?_, h5, ?_, h7⟩
        · rw [show j - i = (j - (i + 1)) + 1 by omega, List.getElem?_cons_succ]; exact h4
        · rw [show j - i = (j - (i + 1)) + 1 by omega, List.getElem?_cons_succ]; exact h6
    · cases h

structure MapT where
  k : TypeId
  el : TypeId
  d : TypeDesc
def mapT (P : Program) (t : TypeId) : Option MapT := match P.underlying t with
  | some (.map k el) => match P.underlying k with
    | some d => if keyable d then some ⟨k, el, d⟩ else none
    | none => none
  | _ => none
theorem mapT_ok {P : Program} {t : TypeId} {M : MapT} (h : mapT P t = some M) : P.underlying t = some (.map M.k M.el) ∧ P.underlying M.k = some M.d ∧ keyable M.d = true := by
  unfold mapT at h
  split at h
  case h_2 => cases h
  rename_i k el hu
  split at h
  case h_2 => cases h
  rename_i d hd
  split at h
  case isFalse => cases h
  rename_i hk
  simp only [Option.some.injEq] at h; subst h
  exact ⟨hu, hd, hk⟩
theorem checkKey_gen {P : Program} {t : TypeId} {d : TypeDesc} (hd : P.underlying t = some d) (hk : keyable d = true) (b : Bool) (n : Nat) (v : Value) (w : World) : (Instr.checkKey b (n + 1) t v).run P w = .ok () w := by
  simp only [Instr.checkKey, Sem.run_bind, run_underlying hd, Result.andThen]
  cases d <;> first | (simp [keyable] at hk; done) | simp
theorem checkKey_ok {P : Program} {t : TypeId} {d : TypeDesc} (hd : P.underlying t = some d) (hk : keyable d = true) (b : Bool) (v : Value) (w : World) : (Instr.checkKey b 10000 t v).run P w = .ok () w := checkKey_gen hd hk b 9999 v w
theorem findKey_ok {P : Program} {t : TypeId} {d : TypeDesc} (hd : P.underlying t = some d) {k : Value} {l : List MapEntry} {r : Option (Nat × Value)} (h : Instr.findNow d k l 0 = some r) (w : World) :
    (Instr.findKey t k l).run P w = .ok r w := by
  simp [Instr.findKey, run_underlying hd, Result.andThen, h]

def esOf (H : List AO) : AV → Option (List (AV × AV × Nat))
  | .v (.map none) => some []
  | .mp i => match H[i]? with
    | some (.map es _) => some es
    | _ => none
  | _ => none
def alookup (P : Program) (T : Tm) (H : List AO) (t : TypeId) (m k : Operand) (ok : Bool) : Option AV := do
  let M ← mapT P t
  let mv ← aeval T m
  let es ← esOf H mv
  let kv ← xval T k
  match ← afind M.d kv es 0 with
  | some (_, x) => pure (if ok then .tup [x, .v (.bool true)] else x)
  | none => do
    let z ← (P.info? M.el).bind (·.zero)
    pure (if ok then .tup [.v z, .v (.bool false)] else .v z)
theorem esOf_sound {W0 : World} {e : Env} {H : List AO} {w : World} (rh : RH W0 e H w) {m : AV} {es : List (AV × AV × Nat)} {y : Value} (h : esOf H m = some es) (g : G e m y) :
    ∃ l : Array MapEntry, Es e es l.toList ∧ ((y = .map none ∧ l = #[]) ∨ ∃ b c, y = .map (some b) ∧ w.heap[b]? = some (.map l c)) := by
  unfold esOf at h
  split at h
  · simp only [Option.some.injEq] at h; subst h
    simp only [G] at g
    exact ⟨#[], by simp [Es], .inl ⟨g, rfl⟩⟩
  · rename_i i
    split at h
    case h_2 => cases h
    rename_i es' ck hi
    simp only [Option.some.injEq] at h; subst h
    simp only [G] at g
    obtain ⟨b, s, he, hv⟩ := g
    obtain ⟨M', hm, ge⟩ := rh.ob _ _ _ _ hi he
    exact ⟨M', ge, .inr ⟨b, ck, hv, hm⟩⟩
  · cases h
theorem alookup_sound {P : Program} {W0 : World} {n : Nat} {e : Env} {T : Tm} {a : Act} {H : List AO} {w : World} (r : RT n e T a) (rh : RH W0 e H w) {t : TypeId} {m k : Operand} {ok : Bool} {z : AV}
    (h : alookup P T H t m k ok = some z) : ∃ v, G e z v ∧ (Instr.lookup t (a.eval m) (a.eval k) ok).run P w = .ok v w := by
  simp only [alookup, Option.bind_eq_bind, Option.bind_eq_some_iff] at h
  obtain ⟨M, hM, mv, hmv, es, hes, kv, hkv, f, hf, h⟩ := h
  obtain ⟨hu, hd, hk⟩ := mapT_ok hM
  have hk' := xval_eval r hkv
  have gm := aeval_G r hmv
  obtain ⟨l, gl, hy⟩ := esOf_sound rh hes gm
  have hff := afind_sound hf gl
  have hck := checkKey_ok hd hk l.isEmpty kv w
  cases f with
  | none =>
    simp only [Option.bind_eq_bind, Option.bind_eq_some_iff, Option.pure_def, Option.some.injEq] at h
    obtain ⟨zv, ⟨i, hi, hz⟩, rfl⟩ := h
    simp only at hff
    have hfk := findKey_ok hd hff w
    have hzr : (zeroValue M.el).run P w = .ok zv w := by simp [zeroValue, typeInfo, hi, hz, Result.andThen]
    refine ⟨if ok then .tuple #[zv, .bool false] else zv, by cases ok <;> simp [G, Gs], ?_⟩
    rcases hy with ⟨hy, rfl⟩ | ⟨b, c, hy, hb⟩
    · simp only [Instr.lookup, Sem.run_bind, run_underlying hu, Result.andThen, hk', hy, Sem.run_pure]
      simp only [hck, hfk, Sem.run_bind, hzr, Sem.run_pure, Result.andThen]
    · simp only [Instr.lookup, Sem.run_bind, run_underlying hu, Result.andThen, hk', hy, getObj, Sem.run, hb]
      simp only [hck, hfk, Sem.run_bind, hzr, Sem.run_pure, Result.andThen]
  | some p =>
    obtain ⟨j, x⟩ := p
    simp only [Option.pure_def, Option.some.injEq] at h
    subst h
    simp only at hff
    obtain ⟨v, h1, h2, _⟩ := hff
    have hfk := findKey_ok hd h1 w
    refine ⟨if ok then .tuple #[v, .bool true] else v, by cases ok <;> simp [G, Gs, h2], ?_⟩
    rcases hy with ⟨hy, rfl⟩ | ⟨b, c, hy, hb⟩
    · simp only [Instr.lookup, Sem.run_bind, run_underlying hu, Result.andThen, hk', hy, Sem.run_pure]
      simp only [hck, hfk, Sem.run_bind, Sem.run_pure, Result.andThen]
    · simp only [Instr.lookup, Sem.run_bind, run_underlying hu, Result.andThen, hk', hy, getObj, Sem.run, hb]
      simp only [hck, hfk, Sem.run_bind, Sem.run_pure, Result.andThen]

/-! ### a map that is written -/
def aupdate (P : Program) (T : Tm) (H : List AO) (t : TypeId) (m k x : Operand) : Option (List AO) := do
  let M ← mapT P t
  match ← aeval T m with
  | .mp i => match H[i]? with
    | some (.map es clock) => do
      let kv ← xval T k
      let y ← aeval T x
      match ← afind M.d kv es 0 with
      | some (j, _) => match es[j]? with
        | some (ok, _, b) => match AV.exact ok with
          | some old => if Instr.sameBits 10000 old kv then pure (H.set i (.map (es.set j (.v kv, y, b)) clock)) else none
          | none => none
        | none => none
      | none => pure (H.set i (.map (es ++ [(.v kv, y, clock)]) (clock + 1)))
    | _ => none
  | _ => none
theorem Es.append {e : Env} : ∀ {es : List (AV × AV × Nat)} {l : List MapEntry} {k x : AV} {b : Nat} {c : MapEntry}, Es e es l → G e k c.key → G e x c.val → c.born = b → Es e (es ++ [(k, x, b)]) (l ++ [c])
  | [], l, k, x, b, c, g, h1, h2, h3 => by simp only [Es] at g; subst g; simp only [List.nil_append, Es]; exact ⟨c, [], rfl, h1, h2, h3, rfl⟩
  | (y, z, b') :: es, l, k, x, b, c, g, h1, h2, h3 => by
    simp only [Es] at g; obtain ⟨c', l', rfl, a1, a2, a3, a4⟩ := g
    simp only [List.cons_append, Es]
    exact ⟨c', _, rfl, a1, a2, a3, a4.append h1 h2 h3⟩
theorem Es.set {e : Env} : ∀ {es : List (AV × AV × Nat)} {l : List MapEntry} (j : Nat) {k x : AV} {b : Nat} {c : MapEntry}, Es e es l → G e k c.key → G e x c.val → c.born = b → Es e (es.set j (k, x, b)) (l.set j c)
  | [], l, j, k, x, b, c, g, h1, h2, h3 => by simp only [Es] at g; subst g; simp [Es]
  | (y, z, b') :: es, l, j, k, x, b, c, g, h1, h2, h3 => by
    simp only [Es] at g; obtain ⟨c', l', rfl, a1, a2, a3, a4⟩ := g
    cases j with
    | zero => simp only [List.set_cons_zero, Es]; exact ⟨_, _, rfl, h1, h2, h3, a4⟩
    | succ j => simp only [List.set_cons_succ, Es]; exact ⟨_, _, rfl, a1, a2, a3, a4.set j h1 h2 h3⟩
theorem Es.born {e : Env} : ∀ {es : List (AV × AV × Nat)} {l : List MapEntry} {j : Nat} {k x : AV} {b : Nat} {c : MapEntry}, Es e es l → es[j]? = some (k, x, b) → l[j]? = some c → c.born = b
  | [], l, j, k, x, b, c, g, h1, h2 => by simp at h1
  | (y, z, b') :: es, l, j, k, x, b, c, g, h1, h2 => by
    simp only [Es] at g; obtain ⟨c', l', rfl, a1, a2, a3, a4⟩ := g
    cases j with
    | zero => simp at h1 h2; obtain ⟨_, _, rfl⟩ := h1; subst h2; exact a3
    | succ j => simp at h1 h2; exact a4.born h1 h2
theorem Es.key {e : Env} : ∀ {es : List (AV × AV × Nat)} {l : List MapEntry} {j : Nat} {k x : AV} {b : Nat} {c : MapEntry}, Es e es l → es[j]? = some (k, x, b) → l[j]? = some c → G e k c.key
  | [], l, j, k, x, b, c, g, h1, h2 => by simp at h1
  | (y, z, b') :: es, l, j, k, x, b, c, g, h1, h2 => by
    simp only [Es] at g; obtain ⟨c', l', rfl, a1, a2, a3, a4⟩ := g
    cases j with
    | zero => simp at h1 h2; obtain ⟨rfl, _, _⟩ := h1; subst h2; exact a1
    | succ j => simp at h1 h2; exact a4.key h1 h2
theorem turn_map {W0 : World} {e : Env} {H : List AO} {w : World} (rh : RH W0 e H w) {i b s : Nat} {es es' : List (AV × AV × Nat)} {clock clock' : Nat} (hi : H[i]? = some (.map es clock)) (he : e[i]? = some (b, s)) (l' : Array MapEntry) (g : Es e es' l'.toList) :
    RH W0 e (H.set i (.map es' clock')) { w with heap := w.heap.setIfInBounds b (.map l' clock') } := by
  have hlt := (rh.lo i b s he).2
  refine rh.turn i b s he _ _ hi (by simp) _ (by simp) (fun c hc => by simp [Array.getElem?_setIfInBounds_ne (Ne.symm hc)]) ⟨l', ?_, g⟩
  simp [Array.getElem?_setIfInBounds_self_of_lt hlt]
theorem aupdate_sound {P : Program} {W0 : World} {n : Nat} {e : Env} {T : Tm} {a : Act} {H H' : List AO} {w : World} (r : RT n e T a) (rh : RH W0 e H w) {t : TypeId} {m k x : Operand}
    (h : aupdate P T H t m k x = some H') : ∃ w', (Instr.mapUpdate t (a.eval m) (a.eval k) (a.eval x)).run P w = .ok () w' ∧ RH W0 e H' w' := by
  simp only [aupdate, Option.bind_eq_bind, Option.bind_eq_some_iff] at h
  obtain ⟨M, hM, mv, hmv, h⟩ := h
  obtain ⟨hu, hd, hk⟩ := mapT_ok hM
  have gm := aeval_G r hmv
  split at h
  case h_2 => cases h
  rename_i i
  split at h
  case h_2 => cases h
  rename_i es clock hi
  simp only [Option.bind_eq_bind, Option.bind_eq_some_iff] at h
  obtain ⟨kv, hkv, y, hy, f, hf, h⟩ := h
  have hk' := xval_eval r hkv
  have gy := aeval_G r hy
  simp only [G] at gm
  obtain ⟨b, s, he, hv⟩ := gm
  obtain ⟨L, hL, ge⟩ := rh.ob _ _ _ _ hi he
  have hff := afind_sound hf ge
  have hck := checkKey_ok hd hk false kv w
  have hb : w.heap[b]? = some (.map L clock) := hL
  cases f with
  | none =>
    simp only [Option.pure_def, Option.some.injEq] at h; subst h
    simp only at hff
    have hfk := findKey_ok hd hff w
    refine ⟨_, ?_, turn_map rh hi he (L.push { key := kv, val := a.eval x, born := clock }) (by simpa using ge.append (k := .v kv) (c := { key := kv, val := a.eval x, born := clock }) (by simp [G]) gy rfl)⟩
    simp only [Instr.mapUpdate, Sem.run_bind, run_underlying hu, Result.andThen, hk', hv, getObj, Sem.run, hb]
    simp only [hck, hfk, setObj, Sem.run, hb]
  | some p =>
    obtain ⟨j, x0⟩ := p
    simp only at hff h
    obtain ⟨v, h1, h2, _, c, y', b', h4, h5, h6, h7⟩ := hff
    simp only [Nat.sub_zero] at h4 h6
    rw [h6] at h
    simp only at h
    split at h
    case h_2 => cases h
    rename_i old hold
    split at h
    case isFalse => cases h
    rename_i hsb
    simp only [Option.pure_def, Option.some.injEq] at h; subst h
    have hck2 : c.key = old := exact_G hold (ge.key h6 h4)
    rw [← hck2] at hsb
    have hfk := findKey_ok hd h1 w
    have hborn := ge.born h6 h4
    have hLj : L[j]? = some c := by simpa using h4
    have hset : (L.modify j fun e => { e with key := kv, val := a.eval x }).toList = L.toList.set j { c with key := kv, val := a.eval x } := by
      rw [Array.toList_modify]
      apply List.ext_getElem?
      intro q
      rw [List.getElem?_modify, List.getElem?_set]
      by_cases hq : j = q
      · subst hq
        have := (List.getElem?_eq_some_iff.1 h4).1
        rw [if_pos rfl, if_pos this, h4]; simp
      · rw [if_neg hq]; cases L.toList[q]? <;> simp [hq]
    refine ⟨_, ?_, turn_map rh hi he (L.modify j fun e => { e with key := kv, val := a.eval x }) (by rw [hset]; exact ge.set j (k := .v kv) (c := { c with key := kv, val := a.eval x }) (by simp [G]) gy hborn)⟩
    simp only [Instr.mapUpdate, Sem.run_bind, run_underlying hu, Result.andThen, hk', hv, getObj, Sem.run, hb]
    simp only [hck, hfk, Instr.keyThatStays, hLj, Option.map_some, Option.getD_some, hsb, if_true, setObj]
    simp only [Sem.run_bind, Sem.run_pure, Result.andThen, Sem.run, hb]
end Go.Mill
end

noncomputable section
namespace Go.Mill
open Go
variable [Syms]

/-! ### iterators over strings and maps -/
theorem push_plain {W0 : World} {e : Env} {H : List AO} {w : World} (rh : RH W0 e H w) (ob : Obj) (o : AO) (ho : ∀ e' w', e.le e' → w'.heap[w.heap.size]? = some ob → OB e' w' w.heap.size 0 o) :
    ∃ e', e.le e' ∧ G e' (.ptr H.length 0) (.pointer (some ⟨w.heap.size, 0, none⟩)) ∧ G e' (.mp H.length) (.map (some w.heap.size)) ∧ RH W0 e' (H ++ [o]) { w with heap := w.heap.push ob } := by
  refine ⟨_, Env.le_snoc _ (w.heap.size, 0), ?_, ?_, rh.push ob 0 o ho⟩
  · simp only [G]; exact ⟨_, _, snoc_last rh.len, rfl⟩
  · simp only [G]; exact ⟨_, _, snoc_last rh.len, rfl⟩
def arange (P : Program) (T : Tm) (H : List AO) (t : TypeId) (x : Operand) : Option (AV × List AO) := do
  match P.underlying t, ← aeval T x with
  | some .string, .v (.string s) => pure (.ptr H.length 0, H ++ [.siter s 0])
  | some (.map ..), .mp i => match H[i]? with
    | some (.map _ clock) => pure (.ptr H.length 0, H ++ [.miter i clock [] clock])
    | _ => none
  | _, _ => none
theorem arange_sound {P : Program} {W0 : World} {n : Nat} {e : Env} {T : Tm} {a : Act} {H H' : List AO} {w : World} (r : RT n e T a) (rh : RH W0 e H w) {t : TypeId} {x : Operand} {z : AV}
    (h : arange P T H t x = some (z, H')) : ∃ v e' w', e.le e' ∧ G e' z v ∧ (Instr.range t (a.eval x)).run P w = .ok v w' ∧ RH W0 e' H' w' := by
  simp only [arange, Option.bind_eq_bind, Option.bind_eq_some_iff] at h
  obtain ⟨xv, hx, h⟩ := h
  have gx := aeval_G r hx
  split at h
  · rename_i s hu
    simp only [Option.pure_def, Option.some.injEq, Prod.mk.injEq] at h
    obtain ⟨rfl, rfl⟩ := h
    simp only [G] at gx
    obtain ⟨e', hle, g, _, rh'⟩ := push_plain rh (.stringIter s 0) (.siter s 0) (fun _ _ _ h => h)
    refine ⟨_, e', _, hle, g, ?_, rh'⟩
    simp [Instr.range, run_underlying hu, gx, Result.andThen]
  · rename_i k el i hu
    split at h
    case h_2 => cases h
    rename_i es clock hi
    simp only [Option.pure_def, Option.some.injEq, Prod.mk.injEq] at h
    obtain ⟨rfl, rfl⟩ := h
    simp only [G] at gx
    obtain ⟨b, s, he, hv⟩ := gx
    obtain ⟨L, hL, ge⟩ := rh.ob _ _ _ _ hi he
    obtain ⟨e', hle, g, _, rh'⟩ := push_plain rh (.mapIter (some b) clock #[] clock) (.miter i clock [] clock) (fun e' w' hle h => ⟨b, s, hle _ _ he, h⟩)
    refine ⟨_, e', _, hle, g, ?_, rh'⟩
    simp [Instr.range, run_underlying hu, hv, Result.andThen, getObj, Sem.run, hL]
  · cases h

def anext (H : List AO) (x : AV) : Option (AV × List AO) :=
  match x with
  | .ptr i 0 => match H[i]? with
    | some (.siter s pos) =>
      if Nat.blt pos s.size then
        match Utf8.decode s pos with
        | (c, wd) => some (.v (.tuple #[.bool true, .int .i64 pos, .int .i32 c]), H.set i (.siter s (pos + wd)))
      else some (.v (.tuple #[.bool false]), H)
    | _ => none
  | _ => none
theorem anext_sound {P : Program} {W0 : World} {e : Env} {H H' : List AO} {w : World} (rh : RH W0 e H w) {x z : AV} {y : Value} {ty : TypeId} (h : anext H x = some (z, H')) (g : G e x y) :
    ∃ v w', G e z v ∧ (Instr.next y true ty).run P w = .ok v w' ∧ RH W0 e H' w' := by
  unfold anext at h
  split at h
  case h_2 => cases h
  rename_i i
  split at h
  case h_2 => cases h
  rename_i s pos hi
  simp only [G] at g
  obtain ⟨b, sz, he, rfl⟩ := g
  have hb : w.heap[b]? = some (.stringIter s pos) := rh.ob _ _ _ _ hi he
  have hlt := (rh.lo i b sz he).2
  split at h
  · rename_i hp
    have hp' : pos < s.size := by simpa [Nat.blt_eq] using hp
    split at h
    rename_i c wd hd
    simp only [Option.some.injEq, Prod.mk.injEq] at h
    obtain ⟨rfl, rfl⟩ := h
    refine ⟨_, { w with heap := w.heap.setIfInBounds b (.stringIter s (pos + wd)) }, rfl, ?_, rh.turn i b sz he _ _ hi (by simp) _ (by simp) (fun c hc => by simp [Array.getElem?_setIfInBounds_ne (Ne.symm hc)]) ?_⟩
    · simp [Instr.next, getObj, Sem.run, hb, hp', hd, setObj, Result.andThen, goInt]
    · show (w.heap.setIfInBounds b _)[b]? = _
      simp [Array.getElem?_setIfInBounds_self_of_lt hlt]
  · rename_i hp
    have hp' : ¬ pos < s.size := by simpa [Nat.blt_eq] using hp
    simp only [Option.some.injEq, Prod.mk.injEq] at h
    obtain ⟨rfl, rfl⟩ := h
    refine ⟨_, w, rfl, ?_, rh⟩
    simp [Instr.next, getObj, Sem.run, hb, hp', Result.andThen]

/-! ### conversions -/
def aconv (P : Program) (H : List AO) (src dst : TypeId) (x : AV) : Option (AV × List AO) :=
  match P.underlying src, P.underlying dst, x with
  | some .string, some (.slice el), .v (.string s) => match P.underlying el with
    | some (.int .u8) => some (.slu H.length 0 s.size 1, H ++ [.cells (s.data.toList.map fun b => .v (.int .u8 b.toNat)) el true false])
    | _ => none
  | some (.slice _), some (.slice el), .sl i off len cap => match P.underlying el, H[i]? with
    | some (.int .u8), some (.cells _ _ _ false) => if Nat.beq src dst then some (.sl i off len cap, H) else none
    | _, _ => none
  | some (.pointer t), some .unsafePointer, .ptr i off => match H[i]? with
    | some (.cells cs _ _ _) => match Program.sz P t with
      | some (_ + 1) => if Nat.blt off cs.length then some (.ptr i off, H) else none
      | _ => none
    | _ => none
  | some .unsafePointer, some (.pointer u), .ptr i off => match H[i]? with
    | some (.cells cs t false _) => match Program.sz P u with
      | some (_ + 1) => if liesAt P P.depth t (cs.length / P.cellsOf t) off u 1 then some (.ptr i off, H) else none
      | _ => none
    | _ => none
  | _, _, _ => none
theorem mark_new {P : Program} (w : World) (C : Array Value) (el : TypeId) :
    (markStringish ⟨w.heap.size, 0, none⟩).run P { w with heap := w.heap.push (.cells C el) } = .ok () { w with heap := w.heap.push (.cells C el (C.size, C.size + 1)) } := by
  have hsh : ({ w with heap := w.heap.push (.cells C el) } : World).shape? w.heap.size = some (el, C.size) := by simp [World.shape?]
  simp only [markStringish, Sem.run_bind, run_shape, Result.andThen, hsh, run_freeze]
  congr 1
  simp only [World.freeze]
  rw [if_neg (by omega)]
  congr 1
  apply Array.ext (by simp)
  intro i h1 h2
  by_cases hi : i = w.heap.size
  · subst hi; simp [Array.getElem_modify]
  · have : i < w.heap.size := by simp at h2; omega
    simp [Array.getElem_modify, Array.getElem_push, this, Ne.symm hi]
theorem aconv_sound {P : Program} {W0 : World} {e : Env} {H H' : List AO} {w : World} (rh : RH W0 e H w) {src dst : TypeId} {x z : AV} {y : Value} (h : aconv P H src dst x = some (z, H')) (g : G e x y) :
    ∃ v e' w', e.le e' ∧ G e' z v ∧ (convert src dst y).run P w = .ok v w' ∧ RH W0 e' H' w' := by
  unfold aconv at h
  split at h
  · rename_i el s hs hd
    split at h
    case h_2 => cases h
    rename_i hel
    simp only [Option.some.injEq, Prod.mk.injEq] at h
    obtain ⟨rfl, rfl⟩ := h
    simp only [G] at g; subst g
    let c := (Question.appendCap s.size 0 el).cut (w.tape w.drawn (.appendCap s.size 0 el))
    have hc : s.size ≤ c := by show s.size ≤ s.size + _; omega
    let C : Array Value := (s.data.map fun b => Value.int .u8 b.toNat) ++ Array.replicate (c - s.size) (.int .u8 0)
    have hCs : C.size = c := by simp only [C, Array.size_append, Array.size_map, Array.size_replicate]; have : s.data.size = s.size := rfl; omega
    have hCv : C.toList = (s.data.toList.map fun b => Value.int .u8 b.toNat) ++ List.replicate (c - s.size) (.int .u8 0) := by simp [C]
    have gs : Gs e (s.data.toList.map fun b => AV.v (.int .u8 b.toNat)) (s.data.toList.map fun b => Value.int .u8 b.toNat) := by
      have := Gs.exact (e := e) (s.data.toList.map fun b => Value.int .u8 b.toNat)
      rwa [List.map_map] at this
    have rh1 := (rh.drew (w.drawn + 1)).push (.cells C el (c, c + 1)) c (.cells (s.data.toList.map fun b => .v (.int .u8 b.toNat)) el true false)
      (fun e' w' hle hb => ⟨C, c, c + 1, hb, hCs, ⟨_, _, hCv, gs.mono hle, by simp⟩, fun _ => .inl (Nat.le_refl _)⟩)
    refine ⟨.slice (some ⟨w.heap.size, 0, none⟩) s.size c, _, _, Env.le_snoc _ _, ?_, ?_, rh1⟩
    · simp only [G]; exact ⟨_, _, c, snoc_last rh.len, hc, by simp, rfl⟩
    · have hm := fun C' => mark_new (P := P) { w with drawn := w.drawn + 1 } C' el
      simp only [convert, Sem.run_bind, run_underlying hs, run_underlying hd, run_underlying hel, Result.andThen, Conv.stringToBytes, run_choose, Question.forced, Bool.false_eq_true, if_false, newRow, run_newObj, Sem.run_pure, hm]
      show Result.ok (Value.slice (some ⟨w.heap.size, 0, none⟩) s.size c) { w with drawn := w.drawn + 1, heap := w.heap.push (.cells C el (C.size, C.size + 1)) } = _
      rw [hCs]
  · rename_i el0 el i off len cap hs hd
    split at h
    case h_2 => cases h
    rename_i cs ct sp hel hi
    split at h
    case isFalse => cases h
    rename_i hsd
    have hsd := Nat.eq_of_beq_eq_true hsd
    subst hsd
    have hel0 : el0 = el := by rw [hs] at hd; cases hd; rfl
    subst hel0
    simp only [Option.some.injEq, Prod.mk.injEq] at h
    obtain ⟨rfl, rfl⟩ := h
    have g0 := g
    simp only [G] at g
    obtain ⟨b, sz, he, rfl⟩ := g
    obtain ⟨C, lo, hi', hC, hCs, ⟨vs, ex, hv, gs, hsp⟩, hfz⟩ := rh.ob _ _ _ _ hi he
    have hsh : w.shape? b = some (ct, C.size) := by simp [World.shape?, hC]
    have hfr : (w.freeze ⟨b, C.size, none⟩ 1).heap = w.heap.modify b fun
        | .cells c elem (lo, hi) => .cells c elem (if lo == hi then (C.size, C.size + 1) else (min lo C.size, max hi (C.size + 1)))
        | o => o := by
      simp only [World.freeze]; rw [if_neg (by omega)]; dsimp only; congr 1
    have hq : (w.freeze ⟨b, C.size, none⟩ 1).heap[b]? = some (.cells C ct (if lo == hi' then (C.size, C.size + 1) else (min lo C.size, max hi' (C.size + 1)))) := by
      rw [hfr, Array.getElem?_modify, if_pos rfl, hC]; rfl
    have hlo : sz ≤ (if lo == hi' then (C.size, C.size + 1) else (min lo C.size, max hi' (C.size + 1))).1 := by
      rcases hfz rfl with h1 | h1
      · split <;> simp <;> omega
      · subst h1; simp; omega
    generalize (if lo == hi' then (C.size, C.size + 1) else (min lo C.size, max hi' (C.size + 1))) = p at hq hlo
    obtain ⟨p1, p2⟩ := p
    have hset : H.set i (.cells cs ct sp false) = H := by
      apply List.ext_getElem?
      intro j
      by_cases hj : i = j
      · subst hj; rw [List.getElem?_set_self (List.getElem?_eq_some_iff.1 hi).1, hi]
      · rw [List.getElem?_set_ne hj]
    have rh' := rh.turn i b sz he (.cells cs ct sp false) _ hi (by simp) (w.freeze ⟨b, C.size, none⟩ 1) (by rw [hfr]; simp) (fun c hc => by rw [hfr, Array.getElem?_modify]; simp [Ne.symm hc]) ⟨C, p1, p2, hq, hCs, ⟨vs, ex, hv, gs, hsp⟩, fun _ => .inl hlo⟩
    rw [hset] at rh'
    refine ⟨_, e, _, Env.le_refl _, g0, ?_, rh'⟩
    simp only [convert, Sem.run_bind, run_underlying hs, Result.andThen]
    simp [run_underlying hel, markStringish, hsh, Result.andThen]
  · rename_i t i off hs hd
    split at h
    case h_2 => cases h
    rename_i cs ct sp ro hi
    split at h
    case h_2 => cases h
    rename_i m hm
    split at h
    case isFalse => cases h
    rename_i hlt
    simp only [Option.some.injEq, Prod.mk.injEq] at h
    obtain ⟨rfl, rfl⟩ := h
    have g0 := g
    simp only [G] at g
    obtain ⟨b, sz, he, rfl⟩ := g
    obtain ⟨C, lo, hi', hC, hCs, ⟨vs, ex, hv, gs, _⟩, _⟩ := rh.ob _ _ _ _ hi he
    have hlt' : off < cs.length := by simpa [Nat.blt_eq] using hlt
    have hl : off < C.size := by rw [← Array.length_toList, hv, List.length_append, gs.length]; omega
    have hsh : w.shape? b = some (ct, C.size) := by simp [World.shape?, hC]
    refine ⟨_, e, w, Env.le_refl _, g0, ?_, rh⟩
    have hsz := run_sz hm w
    have hnl : ¬ (C.size ≤ off) := by omega
    simp only [convert, Sem.run_bind, run_underlying hs, run_underlying hd, Result.andThen, Conv.unsafePointer, Conv.seenAt, viewAt, run_shape, hsh, Option.isSome_some, if_true, Sem.run_pure, cellsIn, hsz]
    simp [hnl]
  · rename_i u i off hs hd
    split at h
    case h_2 => cases h
    rename_i cs ct ro hi
    split at h
    case h_2 => cases h
    rename_i m hm
    split at h
    case isFalse => cases h
    rename_i hlies
    simp only [Option.some.injEq, Prod.mk.injEq] at h
    obtain ⟨rfl, rfl⟩ := h
    have g0 := g
    simp only [G] at g
    obtain ⟨b, sz, he, rfl⟩ := g
    obtain ⟨C, lo, hi', hC, hCs, ⟨vs, ex, hv, gs, hsp⟩, _⟩ := rh.ob _ _ _ _ hi he
    have hex := hsp rfl
    subst hex
    have hl : C.size = cs.length := by rw [← Array.length_toList, hv, List.length_append, gs.length]; simp
    have hsh : w.shape? b = some (ct, cs.length) := by simp [World.shape?, hC, hl]
    refine ⟨_, e, w, Env.le_refl _, g0, ?_, rh⟩
    have hsz := run_sz hm w
    simp only [convert, Sem.run_bind, run_underlying hs, run_underlying hd, Result.andThen, Conv.unsafePointer, Conv.seenAt, viewAt, run_shape, hsh, Option.isSome_some, if_true, Sem.run_pure, hsz, variablesAt, run_program, hlies]
    simp
  · cases h
end Go.Mill
end

noncomputable section
namespace Go.Mill
open Go
variable [Syms]

/-! ### bytes as a string -/
theorem rowAt_more {P : Program} {fits : TypeId → Bool} {d : Nat} {e : TypeId} {c c' off n : Nat} (h : rowAt P fits d e c off n = true) (hc : c ≤ c') : rowAt P fits d e c' off n = true := by
  cases d with
  | zero => simp [rowAt] at h
  | succ d =>
    simp only [rowAt] at h ⊢
    split at h
    · simp at h
    · rename_i hs
      rw [if_neg hs]
      simp only [Bool.or_eq_true, Bool.and_eq_true, decide_eq_true_eq] at h ⊢
      rcases h with ⟨⟨h1, h2⟩, h3⟩ | ⟨h1, h2⟩
      · exact .inl ⟨⟨h1, by omega⟩, h3⟩
      · exact .inr ⟨by omega, h2⟩
theorem liesAt_more {P : Program} : ∀ {d : Nat} {e : TypeId} {c c' off : Nat} {u : TypeId} {n : Nat}, liesAt P d e c off u n = true → c ≤ c' → liesAt P d e c' off u n = true
  | 0, _, _, _, _, _, _, h, _ => by simp [liesAt] at h
  | d + 1, e, c, c', off, u, n, h, hc => by
    simp only [liesAt, Bool.or_eq_true] at h ⊢
    rcases h with h | h
    · exact .inl (rowAt_more h hc)
    · right
      split at h
      · exact liesAt_more h hc
      · cases h
def bytesOfCells : List AV → Option (List UInt8)
  | [] => some []
  | .v (.int .u8 (.ofNat b)) :: r => if Nat.blt b 256 then (bytesOfCells r).map (UInt8.ofNat b :: ·) else none
  | _ :: _ => none
theorem loadBytes_ok {P : Program} {e : Env} {w : World} {b : Nat} : ∀ {cs : List AV} {bs : List UInt8} {l : List Value} {off : Nat} {acc : ByteArray}, bytesOfCells cs = some bs → Gs e cs l →
    (∀ (j : Nat) (v : Value), l[j]? = some v → w.cell? ⟨b, off + j, none⟩ = some v) → (loadBytes ⟨b, off, none⟩ acc cs.length).run P w = .ok ⟨acc.data ++ bs.toArray⟩ w
  | [], bs, l, off, acc, h, g, hc => by
    simp only [bytesOfCells, Option.some.injEq] at h; subst h
    simp [loadBytes]
  | x :: cs, bs, l, off, acc, h, g, hc => by
    unfold bytesOfCells at h
    split at h
    · rename_i heq; cases heq
    · rename_i n r heq
      cases heq
      split at h
      case isFalse => cases h
      simp only [Option.map_eq_some_iff] at h
      obtain ⟨bs', h1, rfl⟩ := h
      simp only [Gs] at g
      obtain ⟨z, zs, rfl, gz, gs⟩ := g
      simp only [G] at gz
      have h0 := hc 0 z rfl
      rw [Nat.add_zero, gz] at h0
      have ih := loadBytes_ok (P := P) (off := off + 1) (acc := acc.push (UInt8.ofNat n)) h1 gs (fun j v hj => by
        have := hc (j + 1) v (by simpa using hj)
        rwa [show off + (j + 1) = off + 1 + j by omega] at this)
      simp only [List.length_cons, loadBytes, Sem.run_bind, run_load, h0, Result.andThen, Addr.add_lit]
      have hn : (Int.ofNat n).toNat = n := rfl
      simp only [hn]
      have hu : Nat.toUInt8 n = UInt8.ofNat n := rfl
      rw [hu, ih]
      congr 2
      simp [ByteArray.push]
    · cases h

def astring (P : Program) (H : List AO) (ts : List TypeId) (x : AV) (n : Option Nat) : Option (AV × List AO) :=
  match ts, x, n with
  | pt :: _, .ptr i off, some (n + 1) => match P.underlying pt, H[i]? with
    | some (.pointer el), some (.cells cs ct sp _) =>
      if Nat.ble (off + (n + 1)) cs.length && (Nat.blt n 1073741824 && liesAt P P.depth ct (cs.length / P.cellsOf ct) off el (n + 1)) then
        (bytesOfCells ((cs.drop off).take (n + 1))).map fun bs => (.v (.string ⟨bs.toArray⟩), H.set i (.cells cs ct sp true))
      else none
    | _, _ => none
  | _, _, _ => none
theorem astring_sound {P : Program} {W0 : World} {e : Env} {H H' : List AO} {w : World} (rh : RH W0 e H w) {ts : List TypeId} {ty : TypeId} {x z : AV} {n : Option Nat} {u : Value} {v : Value} (h : astring P H ts x n = some (z, H')) (gx : G e x u)
    (hv : ∀ m, n = some m → ∃ k, v = .int k m) : ∃ r w', G e z r ∧ (Builtin.unsafeString_ ts.toArray ty #[u, v]).run P w = .ok r w' ∧ RH W0 e H' w' := by
  unfold astring at h
  split at h
  case h_2 => cases h
  rename_i pt tr i off m
  obtain ⟨k, rfl⟩ := hv _ rfl
  split at h
  case h_2 => cases h
  rename_i el cs ct sp ro hu hi
  split at h
  case isFalse => cases h
  rename_i hc
  simp only [Bool.and_eq_true, Nat.ble_eq, Nat.blt_eq] at hc
  obtain ⟨hle, hlt, hlies⟩ := hc
  simp only [Option.map_eq_some_iff, Prod.mk.injEq] at h
  obtain ⟨bs, hbs, rfl, rfl⟩ := h
  simp only [G] at gx
  obtain ⟨b, sz, he, rfl⟩ := gx
  obtain ⟨C, lo, hi', hC, hCs, ⟨vs, ex, hCv, gs, hsp⟩, hfz⟩ := rh.ob _ _ _ _ hi he
  have hCl : cs.length ≤ C.size := by rw [← Array.length_toList, hCv, List.length_append, gs.length]; omega
  have hsh : w.shape? b = some (ct, C.size) := by simp [World.shape?, hC]
  have hlies' : liesAt P P.depth ct (C.size / P.cellsOf ct) off el (m + 1) = true := liesAt_more hlies (Nat.div_le_div_right hCl)
  have hlb := loadBytes_ok (P := P) (w := w) (b := b) (off := off) (acc := .empty) hbs ((gs.drop off).take (m + 1)) (fun j v hj => by
    have hj1 := (List.getElem?_eq_some_iff.1 hj).1
    rw [List.getElem?_take_of_lt (by simp at hj1; omega), List.getElem?_drop] at hj
    have hlt' := (List.getElem?_eq_some_iff.1 hj).1
    have : C.toList[off + j]? = some v := by rw [hCv, List.getElem?_append_left hlt']; exact hj
    simp only [World.cell?, hC]
    simpa using this)
  have hll : ((cs.drop off).take (m + 1)).length = m + 1 := by simp; omega
  rw [hll] at hlb
  have hstr : (⟨(ByteArray.empty).data ++ bs.toArray⟩ : ByteArray) = ⟨bs.toArray⟩ := by
    have h0 : (ByteArray.empty).data = (#[] : Array UInt8) := rfl
    rw [h0, Array.empty_append]
  rw [hstr] at hlb
  refine ⟨.string ⟨bs.toArray⟩, w.freeze ⟨b, off, none⟩ (m + 1), rfl, ?_, ?_⟩
  · have c1 : ¬ (((m + 1 : Nat) : Int) < 0) := by omega
    have c2 : ¬ (((m + 1 : Nat) : Int) > IntKind.i64.max) := by rw [IntKind.max_i64]; omega
    have c3 : ¬ (((m + 1 : Nat) : Int) = 0) := by omega
    have hun : Builtin.unsafeString_ (pt :: tr).toArray ty #[.pointer (some ⟨b, off, none⟩), .int k ((m + 1 : Nat) : Int)] = (do
      let n ← asInt (.int k ((m + 1 : Nat) : Int))
      if n < 0 then runtimePanic (.error "unsafe.String: len out of range")
      if n > IntKind.i64.max then unsupported (.unsafePointer "String: a length above the largest int")
      if n = 0 then pure (.string .empty)
      else if ← variablesAt ⟨b, off, none⟩ (← elemOf pt) n.toNat then do
        let s ← loadBytes ⟨b, off, none⟩ .empty n.toNat
        freeze ⟨b, off, none⟩ n.toNat
        pure (.string s)
      else unsupported (.unsafePointer "String: not so many bytes at ptr")) := rfl
    rw [hun]
    simp only [Sem.run_bind, asInt, asIntOf, Sem.run_pure, Result.andThen, if_neg c1, if_neg c2, if_neg c3, elemOf, run_underlying hu, variablesAt, run_program, run_shape, hsh, Int.toNat_natCast, hlies', if_true, hlb, run_freeze]
  · have hbl := (rh.lo i b sz he).2
    have hfr : (w.freeze ⟨b, off, none⟩ (m + 1)).heap = w.heap.modify b fun
        | .cells c elem (lo, hi) => .cells c elem (if lo == hi then (off, off + (m + 1)) else (min lo off, max hi (off + (m + 1))))
        | o => o := by
      simp only [World.freeze]; rw [if_neg (by omega)]; dsimp only; congr 1
    refine rh.turn i b sz he _ _ hi (by simp) _ (by rw [hfr]; simp) (fun c hc => by rw [hfr, Array.getElem?_modify]; simp [Ne.symm hc]) ?_
    have hq : (w.freeze ⟨b, off, none⟩ (m + 1)).heap[b]? = some (.cells C ct (if lo == hi' then (off, off + (m + 1)) else (min lo off, max hi' (off + (m + 1))))) := by
      rw [hfr, Array.getElem?_modify, if_pos rfl, hC]; rfl
    generalize (if lo == hi' then (off, off + (m + 1)) else (min lo off, max hi' (off + (m + 1)))) = p at hq
    obtain ⟨p1, p2⟩ := p
    exact ⟨C, p1, p2, hq, hCs, ⟨vs, ex, hCv, gs, hsp⟩, by simp⟩

def asliceData (x : AV) : Option AV := match x with
  | .sl i off _ (_ + 1) => some (.ptr i off)
  | .slu i off (_ + 1) _ => some (.ptr i off)
  | _ => none
theorem sliceData_run {P : Program} {a : Addr} {l c : Nat} {w : World} (ts : Array TypeId) (ty : TypeId) (hc : c ≠ 0) : (Builtin.unsafeSliceData_ ts ty #[.slice (some a) l c]).run P w = .ok (.pointer (some a)) w := by
  have : Builtin.unsafeSliceData_ ts ty #[.slice (some a) l c] = (if c ≠ 0 then pure (.pointer (some a)) else do
    if (← viewAt a.block).isSome then pure (.pointer (some a))
    else pure (.pointer (some ⟨← newObj (.view a (← elemOf ty)), 0, none⟩))) := rfl
  rw [this, if_pos hc]; rfl
theorem asliceData_sound {P : Program} {e : Env} {x z : AV} {u : Value} {ts : Array TypeId} {ty : TypeId} (h : asliceData x = some z) (g : G e x u) : ∃ v, G e z v ∧ ∀ w, (Builtin.unsafeSliceData_ ts ty #[u]).run P w = .ok v w := by
  unfold asliceData at h
  split at h
  · simp only [Option.some.injEq] at h; subst h
    simp only [G] at g
    obtain ⟨b, s, he, rfl⟩ := g
    exact ⟨_, ⟨b, s, he, rfl⟩, fun w => sliceData_run _ _ (by omega)⟩
  · simp only [Option.some.injEq] at h; subst h
    simp only [G] at g
    obtain ⟨b, s, c, he, hlc, _, rfl⟩ := g
    exact ⟨_, ⟨b, s, he, rfl⟩, fun w => sliceData_run _ _ (by omega)⟩
  · cases h

/-- Two pointers into one block. -/
def asame (P : Program) (op : BinOp) (t : TypeId) (x y : AV) : Option AV :=
  match op, P.underlying t, x, y with
  | .eql, some (.pointer el), .ptr i f, .ptr j g => match Program.sz P el with
    | some (_ + 1) => if Nat.beq i j then some (.v (.bool (Nat.beq f g))) else none
    | _ => none
  | .neq, some (.pointer el), .ptr i f, .ptr j g => match Program.sz P el with
    | some (_ + 1) => if Nat.beq i j then some (.v (.bool (!Nat.beq f g))) else none
    | _ => none
  | _, _, _, _ => none
theorem ptr_eq {P : Program} {t el : TypeId} {m b f g : Nat} (hu : P.underlying t = some (.pointer el)) (hs : Program.sz P el = some (m + 1)) (d : Nat) (w : World) :
    (Op.equalIn (d + 1) t (.pointer (some ⟨b, f, none⟩)) (.pointer (some ⟨b, g, none⟩))).run P w = .ok (Nat.beq f g) w := by
  simp only [Op.equalIn, Sem.run_bind, run_underlying hu, Result.andThen, run_sz hs]
  rw [if_pos (by omega)]
  have : ((⟨b, f, none⟩ : Addr) == ⟨b, g, none⟩) = Nat.beq f g := by
    by_cases h : f = g
    · subst h; simp [Nat.beq_refl]
    · rw [nbeq h]; simpa using h
  simp [sameAddr, this]
theorem asame_sound {P : Program} {e : Env} {op : BinOp} {t : TypeId} {x y : AV} {u v : Value} {z : AV} {xo yo : Operand} (h : asame P op t x y = some z) (gx : G e x u) (gy : G e y v) (w : World) :
    ∃ r, G e z r ∧ ((do eqGuard op t xo yo u v; binOp op t u v) : Sem Value).run P w = .ok r w := by
  unfold asame at h
  split at h
  · rename_i el i f j g hu
    split at h
    case h_2 => cases h
    rename_i m hs
    split at h
    case isFalse => cases h
    rename_i hij
    have hij := Nat.eq_of_beq_eq_true hij
    subst hij
    simp only [Option.some.injEq] at h; subst h
    simp only [G] at gx gy
    obtain ⟨b, s, he, rfl⟩ := gx
    obtain ⟨b', s', he', rfl⟩ := gy
    rw [he] at he'; cases he'
    refine ⟨_, rfl, ?_⟩
    have hq : (Op.equal t (.pointer (some ⟨b, f, none⟩)) (.pointer (some ⟨b, g, none⟩))).run P w = .ok (Nat.beq f g) w := ptr_eq hu hs 9999 w
    have g1 : eqGuard .eql t xo yo (.pointer (some ⟨b, f, none⟩)) (.pointer (some ⟨b, g, none⟩)) = pure () := rfl
    have b1 : binOp .eql t (.pointer (some ⟨b, f, none⟩)) (.pointer (some ⟨b, g, none⟩)) = (do pure (.bool (← Op.equal t (.pointer (some ⟨b, f, none⟩)) (.pointer (some ⟨b, g, none⟩))))) := rfl
    rw [g1, b1]
    simp only [Sem.run_bind, Sem.run_pure, Result.andThen, hq]
  · rename_i el i f j g hu
    split at h
    case h_2 => cases h
    rename_i m hs
    split at h
    case isFalse => cases h
    rename_i hij
    have hij := Nat.eq_of_beq_eq_true hij
    subst hij
    simp only [Option.some.injEq] at h; subst h
    simp only [G] at gx gy
    obtain ⟨b, s, he, rfl⟩ := gx
    obtain ⟨b', s', he', rfl⟩ := gy
    rw [he] at he'; cases he'
    refine ⟨_, rfl, ?_⟩
    have hq : (Op.equal t (.pointer (some ⟨b, f, none⟩)) (.pointer (some ⟨b, g, none⟩))).run P w = .ok (Nat.beq f g) w := ptr_eq hu hs 9999 w
    have g1 : eqGuard .neq t xo yo (.pointer (some ⟨b, f, none⟩)) (.pointer (some ⟨b, g, none⟩)) = pure () := rfl
    have b1 : binOp .neq t (.pointer (some ⟨b, f, none⟩)) (.pointer (some ⟨b, g, none⟩)) = (do pure (.bool (!(← Op.equal t (.pointer (some ⟨b, f, none⟩)) (.pointer (some ⟨b, g, none⟩)))))) := rfl
    rw [g1, b1]
    simp only [Sem.run_bind, Sem.run_pure, Result.andThen, hq]
  · cases h
end Go.Mill
end

noncomputable section
namespace Go.Mill
open Go
variable [Syms]

/-- Operations that look at memory: what they yield, and the blocks behind them. -/
def aworldOld (P : Program) (R : Ro) (T : Tm) (H : List AO) (o : Oper) : Option (AV × List AO) :=
  match o.op with
  | .load t x => do
    let xv ← aeval T x
    let (cs, off) ← cellsAt R H xv
    let z ← apart P t cs off
    pure (z, H)
  | .store t x y => do
    let xv ← aeval T x
    let yv ← aeval T y
    let H' ← astore P H t xv yv
    pure (.v undef, H')
  | .alloc t => do
    let z ← zeroCells P t
    pure (.ptr H.length 0, H ++ [.cells (z.map .v) t false false])
  | .box t x => do
    let xv ← aeval T x
    pure (.ptr H.length 0, H ++ [.cells xv.cells t false false])
  | .buildSlice t len parts => abuildSlice P T H t len parts
  | .makeSlice t l c => amakeSlice P T H t l c
  | .makeMap t r => match r with
    | none => some (.mp H.length, H ++ [.map [] 0])
    | some _ => none
  | .convert src dst x => do
    let xv ← aeval T x
    aconv P H src dst xv
  | .lookup t m k ok => do
    let z ← alookup P T H t m k ok
    pure (z, H)
  | .mapUpdate t m k x => do
    let H' ← aupdate P T H t m k x
    pure (.v undef, H')
  | .insert t m k x => do
    let H' ← aupdate P T H t m k x
    pure (.v undef, H')
  | .range t x => arange P T H t x
  | .next it true => do
    let xv ← aeval T it
    anext H xv
  | .binOp op t x y _ => do
    let xv ← aeval T x
    let yv ← aeval T y
    let z ← asame P op t xv yv
    pure (z, H)
  | .call { callee := .builtin .append, args := args, argTypes := ts } => match args.toList with
    | [x, y] => do
      let xv ← aeval T x
      let yv ← aeval T y
      aappend P H ts.toList xv yv
    | _ => none
  | .call { callee := .builtin .copy, args := args, argTypes := ts } => match args.toList with
    | [x, y] => do
      let xv ← aeval T x
      let yv ← aeval T y
      acopy P H ts.toList xv yv
    | _ => none
  | .call { callee := .builtin .len, args := args, argTypes := ts } => match args.toList, ts.toList with
    | [x], [t] => do
      let xv ← aeval T x
      let es ← esOf H xv
      match P.underlying t with
      | some (.map ..) => pure (.v (.int .i64 es.length), H)
      | _ => none
    | _, _ => none
  | .call { callee := .builtin .unsafeSliceData, args := args, argTypes := _ } => match args.toList with
    | [x] => do
      let xv ← aeval T x
      let z ← asliceData xv
      pure (z, H)
    | _ => none
  | .call { callee := .builtin .unsafeString, args := args, argTypes := ts } => match args.toList with
    | [x, y] => do
      let xv ← aeval T x
      astring P H ts.toList xv (xnat T y)
    | _ => none
  | _ => none


abbrev WO := Option (AV × List AO)
def wLoad (P : Program) (R : Ro) (T : Tm) (H : List AO) (t : TypeId) (x : Operand) : WO := match aeval T x with
  | none => none
  | some xv => match cellsAt R H xv with
    | none => none
    | some p => match apart P t p.1 p.2 with
      | none => none
      | some z => some (z, H)
def wStore (P : Program) (T : Tm) (H : List AO) (t : TypeId) (x y : Operand) : WO := match aeval T x with
  | none => none
  | some xv => match aeval T y with
    | none => none
    | some yv => match astore P H t xv yv with
      | none => none
      | some H' => some (.v undef, H')
def wAlloc (P : Program) (H : List AO) (t : TypeId) : WO := match zeroCells P t with
  | none => none
  | some z => some (.ptr H.length 0, H ++ [.cells (z.map .v) t false false])
def wBox (T : Tm) (H : List AO) (t : TypeId) (x : Operand) : WO := match aeval T x with
  | none => none
  | some xv => some (.ptr H.length 0, H ++ [.cells xv.cells t false false])
def wMap (H : List AO) (r : Option Operand) : WO := match r with
  | none => some (.mp H.length, H ++ [.map [] 0])
  | some _ => none
def wConv (P : Program) (T : Tm) (H : List AO) (src dst : TypeId) (x : Operand) : WO := match aeval T x with
  | none => none
  | some xv => aconv P H src dst xv
def wLookup (P : Program) (T : Tm) (H : List AO) (t : TypeId) (m k : Operand) (ok : Bool) : WO := match alookup P T H t m k ok with
  | none => none
  | some z => some (z, H)
def wUpdate (P : Program) (T : Tm) (H : List AO) (t : TypeId) (m k x : Operand) : WO := match aupdate P T H t m k x with
  | none => none
  | some H' => some (.v undef, H')
def wNext (T : Tm) (H : List AO) (it : Operand) (s : Bool) : WO := match s with
  | true => match aeval T it with
    | none => none
    | some xv => anext H xv
  | false => none
def wBin (P : Program) (T : Tm) (H : List AO) (op : BinOp) (t : TypeId) (x y : Operand) : WO := match aeval T x with
  | none => none
  | some xv => match aeval T y with
    | none => none
    | some yv => match asame P op t xv yv with
      | none => none
      | some z => some (z, H)
def wAppend (P : Program) (T : Tm) (H : List AO) (args : Array Operand) (ts : Array TypeId) : WO := match args.toList with
  | [x, y] => match aeval T x with
    | none => none
    | some xv => match aeval T y with
      | none => none
      | some yv => aappend P H ts.toList xv yv
  | _ => none
def wCopy (P : Program) (T : Tm) (H : List AO) (args : Array Operand) (ts : Array TypeId) : WO := match args.toList with
  | [x, y] => match aeval T x with
    | none => none
    | some xv => match aeval T y with
      | none => none
      | some yv => acopy P H ts.toList xv yv
  | _ => none
def wLen (P : Program) (T : Tm) (H : List AO) (args : Array Operand) (ts : Array TypeId) : WO := match args.toList, ts.toList with
  | [x], [t] => match aeval T x with
    | none => none
    | some xv => match esOf H xv with
      | none => none
      | some es => match P.underlying t with
        | some (.map ..) => some (.v (.int .i64 es.length), H)
        | _ => none
  | _, _ => none
def wData (T : Tm) (H : List AO) (args : Array Operand) : WO := match args.toList with
  | [x] => match aeval T x with
    | none => none
    | some xv => match asliceData xv with
      | none => none
      | some z => some (z, H)
  | _ => none
def wString (P : Program) (T : Tm) (H : List AO) (args : Array Operand) (ts : Array TypeId) : WO := match args.toList with
  | [x, y] => match aeval T x with
    | none => none
    | some xv => astring P H ts.toList xv (xnat T y)
  | _ => none
def wBuiltin (P : Program) (T : Tm) (H : List AO) (args : Array Operand) (ts : Array TypeId) (b : Builtin) : WO := match b with
  | .append => wAppend P T H args ts
  | .copy => wCopy P T H args ts
  | .len => wLen P T H args ts
  | .unsafeSliceData => wData T H args
  | .unsafeString => wString P T H args ts
  | _ => none
def wCall (P : Program) (T : Tm) (H : List AO) (c : Call) : WO := match c.callee with
  | .builtin b => wBuiltin P T H c.args c.argTypes b
  | _ => none
/-- Operations that look at memory: what they yield, and the blocks behind them. -/
def aworld (P : Program) (R : Ro) (T : Tm) (H : List AO) (o : Oper) : WO := match o.op with
  | .load t x => wLoad P R T H t x
  | .store t x y => wStore P T H t x y
  | .alloc t => wAlloc P H t
  | .box t x => wBox T H t x
  | .buildSlice t len parts => abuildSlice P T H t len parts
  | .makeSlice t l c => amakeSlice P T H t l c
  | .makeMap _ r => wMap H r
  | .convert src dst x => wConv P T H src dst x
  | .lookup t m k ok => wLookup P T H t m k ok
  | .mapUpdate t m k x => wUpdate P T H t m k x
  | .insert t m k x => wUpdate P T H t m k x
  | .range t x => arange P T H t x
  | .next it s => wNext T H it s
  | .binOp op t x y _ => wBin P T H op t x y
  | .call c => wCall P T H c
  | _ => none
theorem aworld_eq (P : Program) (R : Ro) (T : Tm) (H : List AO) (o : Oper) : aworld P R T H o = aworldOld P R T H o := by
  obtain ⟨dst, op, type, pos, after, guard⟩ := o
  cases op <;> try rfl
  case load t x =>
    simp only [aworld, aworldOld, wLoad]
    cases aeval T x <;> simp
    cases cellsAt R H _ <;> simp
    cases apart P t _ _ <;> simp
  case store t x y =>
    simp only [aworld, aworldOld, wStore]
    cases aeval T x <;> simp
    cases aeval T y <;> simp
    cases astore P H t _ _ <;> simp
  case alloc t =>
    simp only [aworld, aworldOld, wAlloc]
    cases zeroCells P t <;> simp
  case box t x =>
    simp only [aworld, aworldOld, wBox]
    cases aeval T x <;> simp
  case convert t x =>
    simp only [aworld, aworldOld, wConv]
    cases aeval T _ <;> simp
  case lookup =>
    simp only [aworld, aworldOld, wLookup]
    cases alookup P T H _ _ _ _ <;> simp
  case mapUpdate =>
    simp only [aworld, aworldOld, wUpdate]
    cases aupdate P T H _ _ _ _ <;> simp
  case insert =>
    simp only [aworld, aworldOld, wUpdate]
    cases aupdate P T H _ _ _ _ <;> simp
  case next it s =>
    cases s <;> simp only [aworld, aworldOld, wNext]
    cases aeval T _ <;> simp
  case binOp op t x y _ =>
    simp only [aworld, aworldOld, wBin]
    cases aeval T x <;> simp
    cases aeval T y <;> simp
    cases asame P op t _ _ <;> simp
  case call c =>
    obtain ⟨callee, args, ts⟩ := c
    cases callee <;> try rfl
    rename_i b
    cases b <;> try rfl
    case append =>
      simp only [aworld, aworldOld, wCall, wBuiltin, wAppend]
      split <;> try rfl
      cases aeval T _ <;> simp
      cases aeval T _ <;> simp
    case copy =>
      simp only [aworld, aworldOld, wCall, wBuiltin, wCopy]
      split <;> try rfl
      cases aeval T _ <;> simp
      cases aeval T _ <;> simp
    case len =>
      simp only [aworld, aworldOld, wCall, wBuiltin, wLen]
      split <;> try rfl
      cases aeval T _ <;> simp
      cases esOf H _ <;> simp
    case unsafeSliceData =>
      simp only [aworld, aworldOld, wCall, wBuiltin, wData]
      split <;> try rfl
      cases aeval T _ <;> simp
      cases asliceData _ <;> simp
    case unsafeString =>
      simp only [aworld, aworldOld, wCall, wBuiltin, wString]
      split <;> try rfl
      cases aeval T _ <;> simp

theorem Es.length {e : Env} : ∀ {es : List (AV × AV × Nat)} {l : List MapEntry}, Es e es l → l.length = es.length
  | [], l, g => by simp only [Es] at g; subst g; rfl
  | (_, _, _) :: es, l, g => by simp only [Es] at g; obtain ⟨c, l', rfl, _, _, _, h⟩ := g; simp [h.length]

/-- What an operation comes to: its value (or none), and the world behind it. -/
def OpTo (P : Program) (a : Act) (o : Oper) (w : World) (v : Value) (w' : World) : Prop :=
  (execOp a.eval o).run P w = .ok (.value v) w' ∨ ((execOp a.eval o).run P w = .ok .skip w' ∧ v = undef)

theorem aworld_sound {P : Program} {R : Ro} {W0 : World} {n : Nat} {e : Env} {T : Tm} {a : Act} {H H' : List AO} {w : World} (hR : RO W0 R) (r : RT n e T a) (rh : RH W0 e H w) {o : Oper} {z : AV}
    (h : aworld P R T H o = some (z, H')) : ∃ v e' w', e.le e' ∧ G e' z v ∧ OpTo P a o w v w' ∧ RH W0 e' H' w' := by
  rw [aworld_eq] at h
  unfold aworldOld at h
  obtain ⟨dst, op, type, pos, after, guard⟩ := o
  simp only at h
  split at h
  -- load
  · rename_i t x
    simp only [Option.bind_eq_bind, Option.bind_eq_some_iff, Option.pure_def, Option.some.injEq, Prod.mk.injEq] at h
    obtain ⟨xv, hx, ⟨cs, off⟩, hc, z', hz, rfl, rfl⟩ := h
    obtain ⟨v, gv, hrun⟩ := aload_sound (P := P) hR rh hc hz (aeval_G r hx)
    exact ⟨v, e, w, Env.le_refl _, gv, .inl (by simp [execOp, hrun, Result.andThen]), rh⟩
  -- store
  · rename_i t x y
    simp only [Option.bind_eq_bind, Option.bind_eq_some_iff, Option.pure_def, Option.some.injEq, Prod.mk.injEq] at h
    obtain ⟨xv, hx, yv, hy, H2, hs, rfl, rfl⟩ := h
    obtain ⟨w', hrun, rh'⟩ := astore_sound (P := P) rh hs (aeval_G r hx) (aeval_G r hy)
    exact ⟨undef, e, w', Env.le_refl _, rfl, .inr ⟨by simp [execOp, hrun, Result.andThen], rfl⟩, rh'⟩
  -- alloc
  · rename_i t
    simp only [Option.bind_eq_bind, Option.bind_eq_some_iff, Option.pure_def, Option.some.injEq, Prod.mk.injEq] at h
    obtain ⟨zc, hzc, rfl, rfl⟩ := h
    obtain ⟨zv, hzv, hrun⟩ := run_zero hzc
    obtain ⟨e', w', hle, g, hnew, rh'⟩ := box_sound (P := P) rh t (zc.map .v) zv (by rw [hzv]; exact Gs.exact zc)
    exact ⟨_, e', w', hle, g, .inl (by simp [execOp, Instr.alloc, hrun, hnew, Result.andThen]), rh'⟩
  -- box
  · rename_i t x
    simp only [Option.bind_eq_bind, Option.bind_eq_some_iff, Option.pure_def, Option.some.injEq, Prod.mk.injEq] at h
    obtain ⟨xv, hx, rfl, rfl⟩ := h
    obtain ⟨e', w', hle, g, hnew, rh'⟩ := box_sound (P := P) rh t xv.cells (a.eval x) (aeval_G r hx).cells
    exact ⟨_, e', w', hle, g, .inl (by simp [execOp, Instr.box, hnew, Result.andThen]), rh'⟩
  -- buildSlice
  · obtain ⟨v, e', w', hle, g, hrun, rh'⟩ := abuildSlice_sound r rh h
    refine ⟨v, e', w', hle, g, .inl ?_, rh'⟩
    simp only [execOp, Sem.run_bind, hrun, Result.andThen]; simp
  -- makeSlice
  · obtain ⟨v, e', w', hle, g, hrun, rh'⟩ := amakeSlice_sound r rh h
    exact ⟨v, e', w', hle, g, .inl (by simp [execOp, hrun, Result.andThen]), rh'⟩
  -- makeMap
  · rename_i t mr
    split at h
    case h_2 => cases h
    simp only [Option.some.injEq, Prod.mk.injEq] at h
    obtain ⟨rfl, rfl⟩ := h
    obtain ⟨e', hle, _, g, rh'⟩ := push_plain rh (.map #[] 0) (.map [] 0) (fun _ _ _ h => ⟨#[], h, by simp [Es]⟩)
    exact ⟨_, e', _, hle, g, .inl (by simp [execOp, Instr.makeMap, Result.andThen]), rh'⟩
  -- convert
  · rename_i src dstt x
    simp only [Option.bind_eq_bind, Option.bind_eq_some_iff] at h
    obtain ⟨xv, hx, h⟩ := h
    obtain ⟨v, e', w', hle, g, hrun, rh'⟩ := aconv_sound (P := P) rh h (aeval_G r hx)
    exact ⟨v, e', w', hle, g, .inl (by simp [execOp, hrun, Result.andThen]), rh'⟩
  -- lookup
  · simp only [Option.bind_eq_bind, Option.bind_eq_some_iff, Option.pure_def, Option.some.injEq, Prod.mk.injEq] at h
    obtain ⟨z', hz, rfl, rfl⟩ := h
    obtain ⟨v, g, hrun⟩ := alookup_sound r rh hz
    exact ⟨v, e, w, Env.le_refl _, g, .inl (by simp [execOp, hrun, Result.andThen]), rh⟩
  -- mapUpdate
  · simp only [Option.bind_eq_bind, Option.bind_eq_some_iff, Option.pure_def, Option.some.injEq, Prod.mk.injEq] at h
    obtain ⟨H2, hz, rfl, rfl⟩ := h
    obtain ⟨w', hrun, rh'⟩ := aupdate_sound r rh hz
    exact ⟨undef, e, w', Env.le_refl _, rfl, .inr ⟨by simp [execOp, hrun, Result.andThen], rfl⟩, rh'⟩
  -- insert
  · simp only [Option.bind_eq_bind, Option.bind_eq_some_iff, Option.pure_def, Option.some.injEq, Prod.mk.injEq] at h
    obtain ⟨H2, hz, rfl, rfl⟩ := h
    obtain ⟨w', hrun, rh'⟩ := aupdate_sound r rh hz
    exact ⟨undef, e, w', Env.le_refl _, rfl, .inr ⟨by simp [execOp, hrun, Result.andThen], rfl⟩, rh'⟩
  -- range
  · obtain ⟨v, e', w', hle, g, hrun, rh'⟩ := arange_sound r rh h
    exact ⟨v, e', w', hle, g, .inl (by simp [execOp, hrun, Result.andThen]), rh'⟩
  -- next
  · simp only [Option.bind_eq_bind, Option.bind_eq_some_iff] at h
    obtain ⟨xv, hx, h⟩ := h
    obtain ⟨v, w', g, hrun, rh'⟩ := anext_sound (P := P) (ty := type) rh h (aeval_G r hx)
    exact ⟨v, e, w', Env.le_refl _, g, .inl (by simp [execOp, hrun, Result.andThen]), rh'⟩
  -- binOp
  · rename_i bop t x y yt
    simp only [Option.bind_eq_bind, Option.bind_eq_some_iff, Option.pure_def, Option.some.injEq, Prod.mk.injEq] at h
    obtain ⟨xv, hx, yv, hy, z', hz, rfl, rfl⟩ := h
    obtain ⟨v, g, hrun⟩ := asame_sound (P := P) (xo := x) (yo := y) hz (aeval_G r hx) (aeval_G r hy) w
    refine ⟨v, e, w, Env.le_refl _, g, .inl ?_, rh⟩
    simp only [Sem.run_bind] at hrun
    simp only [execOp, Sem.run_bind, hrun]
    simp [Result.andThen]
  -- append
  · rename_i args ts
    split at h
    case h_2 => cases h
    rename_i x y hargs
    have hargs := toL hargs
    subst hargs
    simp only [Option.bind_eq_bind, Option.bind_eq_some_iff] at h
    obtain ⟨xv, hx, yv, hy, h⟩ := h
    obtain ⟨v, e', w', hle, g, hrun, rh'⟩ := aappend_sound (P := P) (ty := type) rh h (aeval_G r hx) (aeval_G r hy)
    exact ⟨v, e', w', hle, g, .inl (by simp [execOp, resolve, invoke, builtin, hrun, Result.andThen]), rh'⟩
  -- copy
  · rename_i args ts
    split at h
    case h_2 => cases h
    rename_i x y hargs
    have hargs := toL hargs
    subst hargs
    simp only [Option.bind_eq_bind, Option.bind_eq_some_iff] at h
    obtain ⟨xv, hx, yv, hy, h⟩ := h
    obtain ⟨v, w', g, hrun, rh'⟩ := acopy_sound (P := P) (ty := type) rh h (aeval_G r hx) (aeval_G r hy)
    exact ⟨v, e, w', Env.le_refl _, g, .inl (by simp [execOp, resolve, invoke, builtin, hrun, Result.andThen]), rh'⟩
  -- len of a map
  · rename_i args ts
    split at h
    case h_2 => cases h
    rename_i x t hargs hts
    have hargs := toL hargs
    have hts := toL hts
    subst hargs hts
    simp only [Option.bind_eq_bind, Option.bind_eq_some_iff] at h
    obtain ⟨xv, hx, es, hes, h⟩ := h
    split at h
    case h_2 => cases h
    rename_i k el hu
    simp only [Option.pure_def, Option.some.injEq, Prod.mk.injEq] at h
    obtain ⟨rfl, rfl⟩ := h
    obtain ⟨l, gl, hy⟩ := esOf_sound rh hes (aeval_G r hx)
    have hl := gl.length
    rcases hy with ⟨hy, rfl⟩ | ⟨b, c, hy, hb⟩
    · refine ⟨.int .i64 (es.length : Nat), e, w, Env.le_refl _, rfl, .inl ?_, rh⟩
      have : es.length = 0 := by simpa using hl.symm
      simp [execOp, resolve, invoke, builtin, Builtin.len_, run_underlying hu, hy, Result.andThen, goInt, this]
    · refine ⟨.int .i64 (es.length : Nat), e, w, Env.le_refl _, rfl, .inl ?_, rh⟩
      have : l.size = es.length := by simpa using hl
      simp [execOp, resolve, invoke, builtin, Builtin.len_, run_underlying hu, hy, Result.andThen, goInt, getObj, Sem.run, hb, this]
  -- unsafeSliceData
  · rename_i args ts
    split at h
    case h_2 => cases h
    rename_i x hargs
    have hargs := toL hargs
    subst hargs
    simp only [Option.bind_eq_bind, Option.bind_eq_some_iff, Option.pure_def, Option.some.injEq, Prod.mk.injEq] at h
    obtain ⟨xv, hx, z', hz, rfl, rfl⟩ := h
    obtain ⟨v, g, hrun⟩ := asliceData_sound (P := P) (ts := ts) (ty := type) hz (aeval_G r hx)
    exact ⟨v, e, w, Env.le_refl _, g, .inl (by simp [execOp, resolve, invoke, builtin, hrun, Result.andThen]), rh⟩
  -- unsafeString
  · rename_i args ts
    split at h
    case h_2 => cases h
    rename_i x y hargs
    have hargs := toL hargs
    subst hargs
    simp only [Option.bind_eq_bind, Option.bind_eq_some_iff] at h
    obtain ⟨xv, hx, h⟩ := h
    obtain ⟨v, w', g, hrun, rh'⟩ := astring_sound (P := P) (ty := type) rh h (aeval_G r hx) (v := a.eval y) (fun m hm => xnat_eval r hm)
    exact ⟨v, e, w', Env.le_refl _, g, .inl (by simp [execOp, resolve, invoke, builtin, hrun, Result.andThen]), rh'⟩
  · cases h
end Go.Mill
end
