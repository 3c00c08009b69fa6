/- The mill: a run of Go code that is reckoned ahead in the kernel, and its soundness. Conditions: none. Part D. -/
import Derived.Test.YtidepnhjfolpfaaGreatDoorMillC
import Derived.LoopN
set_option linter.unusedSimpArgs false
set_option linter.unusedVariables false
set_option linter.unusedSectionVars false
noncomputable section
namespace Go.Mill
open Go
variable [Syms]

/-! ### one operation -/
structure CfgOk (C : Cfg) (W0 : World) : Prop where
  ro : RO W0 C.R
  names : NamesOk C.P
  pass : PassOk C.P C.pass
  mixed : C.P.follows .mixedOrders = true

def CallOk (C : Cfg) (W0 : World) (call : FuncId → List AV → List AO → Outs) : Prop :=
  ∀ (e : Env) (H : List AO) (w : World) (f : FuncId) (as : List AV) (ws : Array Value) (outs : List (AV × List AO)), call f as H = some outs → RH W0 e H w → Gs e as ws.toList →
    Calls C.P f ws w fun ex w' => ∃ z H' v e', ex = .returned v ∧ (z, H') ∈ outs ∧ e.le e' ∧ G e' z v ∧ RH W0 e' H' w'

theorem aop_sound {C : Cfg} {W0 : World} (hC : CfgOk C W0) {n : Nat} {e : Env} {T : Tm} {a : Act} {H H' : List AO} {w : World} (r : RT n e T a) (rh : RH W0 e H w) {o : Oper} {z : AV}
    (h : aop C T H o = some (z, H')) : ∃ v e' w', e.le e' ∧ G e' z v ∧ OpTo C.P a o w v w' ∧ RH W0 e' H' w' := by
  unfold aop at h
  split at h
  · exact aworld_sound hC.ro r rh h
  · split at h
    · rename_i z' hz
      simp only [Option.some.injEq, Prod.mk.injEq] at h
      obtain ⟨rfl, rfl⟩ := h
      obtain ⟨v, g, hv⟩ := apure_sound r hz
      exact ⟨v, e, w, Env.le_refl _, g, .inl (hv w), rh⟩
    · split at h
      · rename_i z' hz
        simp only [Option.some.injEq, Prod.mk.injEq] at h
        obtain ⟨rfl, rfl⟩ := h
        obtain ⟨v, g, hv⟩ := passOf_sound hC.pass r hz
        exact ⟨v, e, w, Env.le_refl _, g, .inl (hv w), rh⟩
      · split at h
        · rename_i p hp
          simp only [Option.some.injEq] at h
          rw [h] at hp
          exact aworld_sound hC.ro r rh hp
        · exact aextra_sound r rh h
theorem OpTo.wp {P : Program} {a : Act} {o : Oper} {w w' : World} {v : Value} {K : Act → World → Prop} {Q : Exit → Act → World → Prop} (h : OpTo P a o w v w') (hK : K (a.put o.dst v) w') : o.wp P a w K Q := by
  unfold Oper.wp
  rcases h with h | ⟨h, rfl⟩
  · rw [h]; exact hK
  · rw [h]; exact hK
theorem xOp1_sound {C : Cfg} {W0 : World} (hC : CfgOk C W0) {n : Nat} {e : Env} {T : Tm} {a : Act} {H : List AO} {w : World} (rt : RT n e T a) (rh : RH W0 e H w) {o : Oper} {outs : List (AV × List AO)}
    (h : xOp1 C T H o = some outs) {K : Act → World → Prop} {Q : Exit → Act → World → Prop}
    (hK : ∀ z H' e' v w', (z, H') ∈ outs → e.le e' → G e' z v → RH W0 e' H' w' → K (a.put o.dst v) w') : o.wp C.P a w K Q := by
  unfold xOp1 at h
  split at h
  · rename_i p hp
    obtain ⟨z, H'⟩ := p
    simp only [Option.some.injEq] at h; subst h
    obtain ⟨v, e', w', hle, g, hto, rh'⟩ := aop_sound hC rt rh hp
    exact hto.wp (hK z H' e' v w' (by simp) hle g rh')
  · obtain ⟨dst, op, type, pos, after, guard⟩ := o
    unfold mapStep at h
    split at h
    · rename_i it hop
      simp only at hop; subst hop
      simp only [Option.bind_eq_some_iff] at h
      obtain ⟨xv, hx, h⟩ := h
      obtain ⟨z, H', v, w', hm, g, hrun, rh'⟩ := anextMap_sound (P := C.P) (ty := type) rh h (aeval_G rt hx)
      refine OpTo.wp (v := v) (w' := w') (.inl ?_) (hK z H' e v w' hm (Env.le_refl _) g rh')
      simp [execOp, hrun, Result.andThen]
    · cases h
theorem xOp_sound {C : Cfg} {W0 : World} (hC : CfgOk C W0) {r : Runs} (hr : CallOk C W0 r.call) {n : Nat} {e : Env} {T : Tm} {a : Act} {H : List AO} {w : World} (rt : RT n e T a) (rh : RH W0 e H w) {o : Oper} {outs : List (AV × List AO)}
    (h : xOp C r T H o = some outs) {K : Act → World → Prop} {Q : Exit → Act → World → Prop}
    (hK : ∀ z H' e' v w', (z, H') ∈ outs → e.le e' → G e' z v → RH W0 e' H' w' → K (a.put o.dst v) w') : o.wp C.P a w K Q := by
  unfold xOp at h
  split at h
  · split at h
    · rename_i p hp
      obtain ⟨f, as⟩ := p
      obtain ⟨ws, gw, hrun⟩ := calleeOf_sound hC.names rt hp w
      unfold Oper.wp
      rw [hrun, Oper.upon_enter]
      refine Calls.mono (hr e H w f as ws outs h rh gw) fun ex w' hex => ?_
      obtain ⟨z, H', v, e', rfl, hm, hle, g, rh'⟩ := hex
      exact hK z H' e' v w' hm hle g rh'
    · exact xOp1_sound hC rt rh h hK
  · exact xOp1_sound hC rt rh h hK
theorem xPut_sound {C : Cfg} {W0 : World} (hC : CfgOk C W0) {r : Runs} (hr : CallOk C W0 r.call) {n : Nat} {e : Env} {T : Tm} {a : Act} {H : List AO} {w : World} (rt : RT n e T a) (rh : RH W0 e H w) {ops : Array Oper} {i : Nat} {o : Oper} (ho : ops[i]? = some o)
    {outs : List (Tm × List AO)} (h : xPut C r n ops T H o = some outs) {K : Act → World → Prop} {Q : Exit → Act → World → Prop}
    (hK : ∀ T' H' e' v w', (T', H') ∈ outs → e.le e' → RT n e' T' (a.put o.dst v) → RH W0 e' H' w' → K (a.put o.dst v) w') : wpOp C.P ops Q i K a w := by
  unfold xPut at h
  unfold wpOp
  simp only [ho]
  split at h
  case h_2 => cases h
  rename_i b hb
  rw [awanted_sound rt hb]
  split at h
  · simp only [if_true]
    refine .inl ?_
    obtain ⟨l, hl, hm⟩ := bindM_mem h
    refine xOp_sound hC hr rt rh hl fun z H' e' v w' hz hle g rh' => ?_
    obtain ⟨l', h1, h2⟩ := hm _ hz
    unfold putT at h1
    split at h1
    case h_2 => cases h1
    rename_i T' hT
    simp only [Option.some.injEq] at h1; subst h1
    exact hK T' H' e' v w' (h2 _ (by simp)) hle ((rt.mono hle).put hT g) rh'
  · simp only [Bool.false_eq_true, if_false]
    unfold putT at h
    split at h
    case h_2 => cases h
    rename_i T' hT
    simp only [Option.some.injEq] at h; subst h
    exact hK T' H e undef w (by simp) (Env.le_refl _) (rt.put hT rfl) rh

/-! ### lines -/
theorem xOps_sound {C : Cfg} {W0 : World} (hC : CfgOk C W0) {r : Runs} (hr : CallOk C W0 r.call) {n : Nat} {ops : Array Oper} {Q : Exit → Act → World → Prop} {e0 : Env} : ∀ (l : List Oper) (k : Nat), ops.toList.drop k = l →
    ∀ (e : Env) (T : Tm) (a : Act) (H : List AO) (w : World) (outs : List (Tm × List AO)), e0.le e → RT n e T a → RH W0 e H w → xOps C r n ops l T H = some outs →
    (∀ T' H' e' a' w', (T', H') ∈ outs → e0.le e' → RT n e' T' a' → RH W0 e' H' w' → Q .normal a' w') → wpOps C.P ops Q (List.range' k l.length) a w
  | [], k, hk, e, T, a, H, w, outs, hle, rt, rh, h, hQ => by
    have h' : some [(T, H)] = some outs := h
    simp only [Option.some.injEq] at h'; subst h'
    simpa [wpOps] using hQ T H e a w (by simp) hle rt rh
  | o :: l, k, hk, e, T, a, H, w, outs, hle, rt, rh, h, hQ => by
    have h' : (bindM (xPut C r n ops T H o) fun x => xOps C r n ops l x.1 x.2) = some outs := h
    have ho : ops[k]? = some o := by
      have : (ops.toList.drop k)[0]? = some o := by rw [hk]; rfl
      rw [List.getElem?_drop] at this
      simpa using this
    have hk' : ops.toList.drop (k + 1) = l := by
      rw [← List.tail_drop, hk]; rfl
    rw [List.length_cons, List.range'_succ, wpOps_cons]
    obtain ⟨l1, hl1, hm⟩ := bindM_mem h'
    refine xPut_sound hC hr rt rh ho hl1 fun T' H' e' v w' hin hle' rt' rh' => ?_
    obtain ⟨l2, h1, h2⟩ := hm _ hin
    exact xOps_sound hC hr l (k + 1) hk' e' T' _ H' w' l2 (Env.le_trans hle hle') rt' rh' h1 fun T2 H2 e2 a2 w2 hin2 => hQ T2 H2 e2 a2 w2 (h2 _ hin2)
end Go.Mill
end

noncomputable section
namespace Go.Mill
open Go
variable [Syms]

/-! ### what is sure -/
mutual
theorem sure_G {e : Env} : ∀ {x : AV} {u v : Value}, x.sure = true → G e x u → G e x v → u = v
  | .v x, u, v, h, g, g' => by simp only [G] at g g'; rw [g, g']
  | .ptr i a, u, v, h, g, g' => by
    simp only [G] at g g'
    obtain ⟨b, s, h1, rfl⟩ := g
    obtain ⟨b', s', h2, rfl⟩ := g'
    rw [h1] at h2; cases h2; rfl
  | .sl i a l k, u, v, h, g, g' => by
    simp only [G] at g g'
    obtain ⟨b, s, h1, rfl⟩ := g
    obtain ⟨b', s', h2, rfl⟩ := g'
    rw [h1] at h2; cases h2; rfl
  | .slu .., u, v, h, g, g' => by simp [AV.sure] at h
  | .mp i, u, v, h, g, g' => by
    simp only [G] at g g'
    obtain ⟨b, s, h1, rfl⟩ := g
    obtain ⟨b', s', h2, rfl⟩ := g'
    rw [h1] at h2; cases h2; rfl
  | .fn f a b, u, v, h, g, g' => by
    simp only [AV.sure, Bool.and_eq_true] at h
    simp only [G] at g g'
    obtain ⟨l, m, rfl, h1, h2⟩ := g
    obtain ⟨l', m', rfl, h3, h4⟩ := g'
    rw [Array.toList_inj.1 (sures_Gs h.1 h1 h3), Array.toList_inj.1 (sures_Gs h.2 h2 h4)]
  | .agg a, u, v, h, g, g' => by
    simp only [AV.sure] at h
    simp only [G] at g g'
    obtain ⟨l, rfl, h1⟩ := g
    obtain ⟨l', rfl, h3⟩ := g'
    rw [Array.toList_inj.1 (sures_Gs h h1 h3)]
  | .tup a, u, v, h, g, g' => by
    simp only [AV.sure] at h
    simp only [G] at g g'
    obtain ⟨l, rfl, h1⟩ := g
    obtain ⟨l', rfl, h3⟩ := g'
    rw [Array.toList_inj.1 (sures_Gs h h1 h3)]
  | .ifc t x, u, v, h, g, g' => by
    simp only [AV.sure] at h
    simp only [G] at g g'
    obtain ⟨l, rfl, h1⟩ := g
    obtain ⟨l', rfl, h3⟩ := g'
    rw [sure_G h h1 h3]
  | .top, u, v, h, g, g' => by simp [AV.sure] at h
  | .sym i, u, v, h, g, g' => by simp only [G] at g g'; rw [g, g']
theorem sures_Gs {e : Env} : ∀ {xs : List AV} {us vs : List Value}, AV.sures xs = true → Gs e xs us → Gs e xs vs → us = vs
  | [], us, vs, h, g, g' => by simp only [Gs] at g g'; rw [g, g']
  | x :: xs, us, vs, h, g, g' => by
    simp only [AV.sures, Bool.and_eq_true] at h
    simp only [Gs] at g g'
    obtain ⟨z, zs, rfl, h1, h2⟩ := g
    obtain ⟨z', zs', rfl, h3, h4⟩ := g'
    rw [sure_G h.1 h1 h3, sures_Gs h.2 h2 h4]
end
theorem loadOf_sound {C : Cfg} {W0 : World} (hC : CfgOk C W0) {n : Nat} {e : Env} {T : Tm} {a : Act} {H : List AO} {w : World} (rt : RT n e T a) (rh : RH W0 e H w) {o : Oper} {z : AV} (h : loadOf C T H o = some z) :
    z.sure = true ∧ ∃ v, G e z v ∧ (execOp a.eval o).run C.P w = .ok (.value v) w := by
  obtain ⟨dst, op, type, pos, after, guard⟩ := o
  unfold loadOf at h
  split at h
  case h_2 => cases h
  rename_i t x hop
  simp only at hop; subst hop
  split at h
  case h_2 => cases h
  rename_i xv hx
  split at h
  case h_2 => cases h
  rename_i p hp
  obtain ⟨cs, off⟩ := p
  split at h
  case h_2 => cases h
  rename_i z' hz
  rw [bif'_eq] at h
  split at h
  case isFalse => cases h
  rename_i hs
  simp only [Option.some.injEq] at h; subst h
  obtain ⟨v, gv, hrun⟩ := aload_sound (P := C.P) hC.ro rh hp hz (aeval_G rt hx)
  exact ⟨hs, v, gv, by simp [execOp, hrun, Result.andThen]⟩
theorem isLoad_notSelect {o : Oper} (h : isLoad o.op = true) : ∀ cs b, o.op ≠ .select cs b := fun cs b hs => by rw [hs] at h; cases h

/-- What was read ahead is still there. -/
def HeldS (P : Program) (ops : Array Oper) (hm : Nat) (a : Act) (w : World) : Prop :=
  ∀ (i : Nat) (o : Oper), ops[i]? = some o → hits hm i = true → ∃ d, o.dst = some d ∧ (execOp a.eval o).run P w = .ok (.value (a.tmps.getD d undef)) w
structure Inv (P : Program) (ops : Array Oper) (W0 : World) (n : Nat) (S : World → Prop) (p : Lv) (e : Env) (a : Act) (w : World) (listed : Array Bool) : Prop where
  t : RT n e p.T a
  h : RH W0 e p.H w
  ls : listed.size = ops.size
  lm : ∀ i, listed.getD i false = hits p.m i
  held : HeldS P ops p.hm a w
  toS : ∀ w', HeldS P ops p.hm a w' → S w'
  clr : ∀ (i : Nat) (o : Oper) (j : Nat) (oj : Oper), ops[i]? = some o → hits p.hm i = true → ops[j]? = some oj → j ≠ i → hits p.m j = false → clear ops o oj = true
  got : ∀ i, hits p.hm i = true → hits p.m i = true

section
variable {P : Program} {ops : Array Oper} {W0 : World} {n : Nat} {S : World → Prop} {p : Lv} {e : Env} {a : Act} {w : World} {listed : Array Bool}

theorem Inv.unlisted (I : Inv P ops W0 n S p e a w listed) {j : Nat} : listed.getD j true = false ↔ j < ops.size ∧ hits p.m j = false := by
  rw [← I.lm j, ← I.ls]
  rcases Nat.lt_or_ge j listed.size with h | h
  · simp [h]
  · simp [Array.getElem?_eq_none h]; omega
theorem Inv.ready_iff (I : Inv P ops W0 n S p e a w listed) {x : OI} (hx : OIok ops x) : isReady p.m x = true ↔ x.ix ∈ Region.ready .any ops listed := by
  have hlt : x.ix < ops.size := (Array.getElem?_eq_some_iff.1 hx.get).1
  rw [mem_ready, I.unlisted]
  unfold isReady
  rw [bif'_eq]
  constructor
  · intro h
    split at h
    case isFalse => cases h
    rename_i hs
    refine ⟨⟨hlt, by simpa using h⟩, x.o, hx.get, fun ed he hb => ?_⟩
    rw [I.lm]
    exact sub'_hits hs (by rw [hx.deps]; exact depsM_iff.2 ⟨ed, he, hb, rfl⟩)
  · rintro ⟨⟨_, h0⟩, o, ho, h⟩
    rw [hx.get] at ho; cases ho
    have hs : sub' x.deps p.m = true := by
      unfold sub'
      have : x.deps &&& p.m = x.deps := by
        apply Nat.eq_of_testBit_eq
        intro i
        rw [Nat.testBit_and]
        cases hd : x.deps.testBit i with
        | false => rfl
        | true =>
          rw [hx.deps] at hd
          obtain ⟨ed, he, hb, rfl⟩ := depsM_iff.1 hd
          have := h ed he hb
          rw [I.lm] at this
          rw [Bool.true_and]; exact this
      show Nat.beq (x.deps &&& p.m) x.deps = true
      rw [this]; exact Nat.beq_refl _
    rw [hs, if_pos rfl, h0]; rfl
theorem Inv.listed_set (I : Inv P ops W0 n S p e a w listed) {i : Nat} (hi : i < ops.size) (j : Nat) : (listed.setIfInBounds i true).getD j false = hits (Nat.lor (bit i) p.m) j := by
  rw [hits_lor, hits_bit]
  by_cases hij : i = j
  · subst hij
    simp [I.ls, hi]
  · rw [getD_set_ne false hij, I.lm]; simp [hij]
/-- What is put behind an operation not yet listed leaves what was read ahead. -/
theorem Inv.heldPut (I : Inv P ops W0 n S p e a w listed) (hns : Region.noSelect ops = true) {j : Nat} {oj : Oper} (hj : ops[j]? = some oj) (hun : hits p.m j = false) (v : Value) (w' : World) :
    HeldS P ops p.hm (a.put oj.dst v) w' ↔ HeldS P ops p.hm a w' := by
  have key : ∀ (i : Nat) (o : Oper), ops[i]? = some o → hits p.hm i = true → execOp (a.put oj.dst v).eval o = execOp a.eval o ∧ ∀ d, o.dst = some d → (a.put oj.dst v).tmps.getD d undef = a.tmps.getD d undef := by
    intro i o ho hm
    have hne : j ≠ i := fun h => by rw [h, I.got i hm] at hun; cases hun
    obtain ⟨c1, c2⟩ := clear_spec (I.clr i o j oj ho hm hj hne hun)
    refine ⟨execOp_put (ops := ops) o (Region.noSelect_spec hns i o · · ho) a oj.dst v c1, fun d hd => ?_⟩
    cases hdj : oj.dst with
    | none => rfl
    | some d' =>
      have := c2 d' d hdj hd
      simp [Act.put, Array.getD_eq_getD_getElem?, Array.getElem?_setIfInBounds_ne this]
  constructor
  · intro h i o ho hm
    obtain ⟨d, hd, hrun⟩ := h i o ho hm
    obtain ⟨k1, k2⟩ := key i o ho hm
    exact ⟨d, hd, by rw [← k1, ← k2 d hd]; exact hrun⟩
  · intro h i o ho hm
    obtain ⟨d, hd, hrun⟩ := h i o ho hm
    obtain ⟨k1, k2⟩ := key i o ho hm
    exact ⟨d, hd, by rw [k1, k2 d hd]; exact hrun⟩
/-- One more listed. -/
theorem Inv.next (I : Inv P ops W0 n S p e a w listed) (hns : Region.noSelect ops = true) {j : Nat} {oj : Oper} (hj : ops[j]? = some oj) (hun : hits p.m j = false) {q : Lv} {e' : Env} {v : Value} {w' : World}
    (hm : q.m = Nat.lor (bit j) p.m) (hh : q.hm = p.hm) (rt : RT n e' q.T (a.put oj.dst v)) (rh : RH W0 e' q.H w') (hs : HeldS P ops p.hm (a.put oj.dst v) w') :
    Inv P ops W0 n S q e' (a.put oj.dst v) w' (listed.setIfInBounds j true) where
  t := rt
  h := rh
  ls := by simp [I.ls]
  lm := fun i => by rw [hm]; exact I.listed_set (Array.getElem?_eq_some_iff.1 hj).1 i
  held := by rw [hh]; exact hs
  toS := fun w2 h2 => I.toS w2 ((I.heldPut hns hj hun v w2).1 (by rw [hh] at h2; exact h2))
  clr := fun i o k ok ho hi hk hne hu => by
    rw [hh] at hi
    rw [hm, hits_lor] at hu
    simp only [Bool.or_eq_false_iff] at hu
    exact I.clr i o k ok ho hi hk hne hu.2
  got := fun i hi => by
    rw [hh] at hi
    rw [hm, hits_lor, I.got i hi]; simp
/-- Renumbered. -/
theorem Inv.same (I : Inv P ops W0 n S p e a w listed) {q : Lv} {e' : Env} (hm : q.m = p.m) (hh : q.hm = p.hm) (rt : RT n e' q.T a) (rh : RH W0 e' q.H w) : Inv P ops W0 n S q e' a w listed :=
  ⟨rt, rh, I.ls, fun i => by rw [hm]; exact I.lm i, by rw [hh]; exact I.held, fun w' h => I.toS w' (by rw [hh] at h; exact h), fun i o j oj ho hi hj hne hu => I.clr i o j oj ho (by rw [hh] at hi; exact hi) hj hne (by rw [hm] at hu; exact hu),
    fun i hi => by rw [hm]; rw [hh] at hi; exact I.got i hi⟩
/-- Free to be taken first. -/
theorem Inv.free (I : Inv P ops W0 n S p e a w listed) {x : OI} (hx : OIok ops x) (hneed : sub' x.need p.m = true) (j : Nat) (oj : Oper) (hj : ops[j]? = some oj) (hne : j ≠ x.ix) (hun : listed.getD j true = false)
    (hno : ∀ ed ∈ oj.after, Region.binds .any ed = true → ed.on ≠ x.ix) : x.o.apart ops oj = true := by
  have hu := (I.unlisted.1 hun).2
  rcases needOf_spec (ops := ops) (i := x.ix) (x := x.o) ops.toList 0 j oj (by simpa using hj) with h | h | h | h
  · exact absurd (by omega) hne
  · obtain ⟨ed, he, hb, ho⟩ := depsM_iff.1 h
    exact absurd ho (hno ed he hb)
  · exact h
  · rw [Nat.zero_add, ← hx.need] at h
    have := sub'_hits hneed h
    rw [hu] at this; cases this
end
theorem wpAnyH_mono {P : Program} {md : Region.Mode} {ops : Array Oper} {Q : Exit → Act → World → Prop} {S S' : World → Prop} (hS : ∀ w, S w → S' w) : ∀ (fuel : Nat) (listed : Array Bool) (a : Act) (w : World), wpAnyH P md ops Q S fuel listed a w → wpAnyH P md ops Q S' fuel listed a w
  | 0, _, _, _, h => h
  | fuel + 1, _, _, _, h => ⟨h.1, fun i hi => wpOp_mono (fun a' w' h' => ⟨hS _ h'.1, wpAnyH_mono hS fuel _ a' w' h'.2⟩) (h.2 i hi)⟩
end Go.Mill
end

noncomputable section
namespace Go.Mill
open Go
variable [Syms]

theorem sub'_of {d m : Nat} (h : ∀ i, hits d i = true → hits m i = true) : sub' d m = true := by
  unfold sub'
  have : d &&& m = d := by
    apply Nat.eq_of_testBit_eq
    intro i
    rw [Nat.testBit_and]
    cases hd : d.testBit i with
    | false => rfl
    | true => rw [Bool.true_and]; exact h i hd
  show Nat.beq (d &&& m) d = true
  rw [this]; exact Nat.beq_refl _
theorem sub'_lor {a b m : Nat} (h : sub' (Nat.lor a b) m = true) : sub' a m = true ∧ sub' b m = true :=
  ⟨sub'_of fun i hi => sub'_hits h (by rw [hits_lor, hi]; rfl), sub'_of fun i hi => sub'_hits h (by rw [hits_lor, hi]; simp)⟩
theorem firstPure_spec {C : Cfg} {T : Tm} {ops : Array Oper} {m : Nat} {x : OI} {z : AV} : ∀ {l : List OI}, firstPure C T ops m l = some (x, z) → x ∈ l ∧ isReady m x = true ∧ sub' x.need m = true ∧ yieldP C T ops x.o = some z
  | [], h => by cases h
  | y :: l, h => by
    unfold firstPure at h
    rw [fold'_cons, bif'_eq, bif'_eq] at h
    have rest : fold' (fun x r => bif' (isReady m x) (bif' (sub' x.need m) (match yieldP C T ops x.o with
      | some z => some (x, z)
      | none => r) r) r) none l = some (x, z) → x ∈ y :: l ∧ isReady m x = true ∧ sub' x.need m = true ∧ yieldP C T ops x.o = some z := fun h => by
      obtain ⟨h1, h2⟩ := firstPure_spec (l := l) h
      exact ⟨List.mem_cons_of_mem _ h1, h2⟩
    split at h
    · rename_i hr
      split at h
      · rename_i hs
        split at h
        · rename_i z' hz
          simp only [Option.some.injEq, Prod.mk.injEq] at h
          obtain ⟨rfl, rfl⟩ := h
          exact ⟨List.mem_cons_self, hr, hs, hz⟩
        · exact rest h
      · exact rest h
    · exact rest h
theorem firstLoad_spec {C : Cfg} {ops : Array Oper} {p : Lv} {x : OI} {z : AV} : ∀ {l : List OI}, firstLoad C ops p l = some (x, z) → x ∈ l ∧ isLoad x.o.op = true ∧ isReady p.m x = true ∧ sub' (Nat.lor x.need x.needL) p.m = true ∧ yieldL C p.T p.H ops x.o = some z
  | [], h => by cases h
  | y :: l, h => by
    unfold firstLoad at h
    rw [fold'_cons, bif'_eq, bif'_eq, bif'_eq] at h
    have rest : fold' (fun x r => bif' (isLoad x.o.op) (bif' (isReady p.m x) (bif' (sub' (Nat.lor x.need x.needL) p.m) (match yieldL C p.T p.H ops x.o with
    | some z => some (x, z)
    | none => r) r) r) r) none l = some (x, z) → x ∈ y :: l ∧ isLoad x.o.op = true ∧ isReady p.m x = true ∧ sub' (Nat.lor x.need x.needL) p.m = true ∧ yieldL C p.T p.H ops x.o = some z := fun h => by
      obtain ⟨h1, h2⟩ := firstLoad_spec (l := l) h
      exact ⟨List.mem_cons_of_mem _ h1, h2⟩
    split at h
    · rename_i hl
      split at h
      · rename_i hr
        split at h
        · rename_i hs
          split at h
          · rename_i z' hz
            simp only [Option.some.injEq, Prod.mk.injEq] at h
            obtain ⟨rfl, rfl⟩ := h
            exact ⟨List.mem_cons_self, hl, hr, hs, hz⟩
          · exact rest h
        · exact rest h
      · exact rest h
    · exact rest h
theorem readies_spec {m : Nat} {x : OI} : ∀ {l : List OI}, x ∈ readies m l ↔ x ∈ l ∧ isReady m x = true
  | [] => by simp [readies, fold'_nil]
  | y :: l => by
    have ih := readies_spec (m := m) (x := x) (l := l)
    unfold readies at ih ⊢
    rw [fold'_cons, bif'_eq]
    split
    · rename_i hr
      rw [List.mem_cons, ih, List.mem_cons]
      constructor
      · rintro (rfl | ⟨h1, h2⟩)
        · exact ⟨.inl rfl, hr⟩
        · exact ⟨.inr h1, h2⟩
      · rintro ⟨rfl | h1, h2⟩
        · exact .inl rfl
        · exact .inr ⟨h1, h2⟩
    · rename_i hr
      rw [ih, List.mem_cons]
      constructor
      · rintro ⟨h1, h2⟩; exact ⟨.inr h1, h2⟩
      · rintro ⟨rfl | h1, h2⟩
        · exact absurd h2 hr
        · exact ⟨h1, h2⟩
theorem yieldP_sound {C : Cfg} {n : Nat} {e : Env} {T : Tm} {a : Act} (rt : RT n e T a) {ops : Array Oper} {o : Oper} {z : AV} (h : yieldP C T ops o = some z) : ∃ v, G e z v ∧ Yields C.P ops o v a := by
  unfold yieldP at h
  split at h
  case h_2 => cases h
  rename_i b hb
  have hw := awanted_sound rt hb
  split at h
  · split at h
    · obtain ⟨v, g, hv⟩ := apure_sound rt h
      exact ⟨v, g, .inl ⟨hw, hv⟩⟩
    · cases h
  · simp only [Option.some.injEq] at h; subst h
    exact ⟨undef, rfl, .inr ⟨hw, rfl⟩⟩
theorem allStill_spec {C : Cfg} {hm : Nat} {infos : List OI} {x : Tm × List AO} : ∀ {l : List (Tm × List AO)}, allStill C hm infos l = true → x ∈ l → stills C x.1 x.2 hm infos = true
  | [], _, hx => by cases hx
  | y :: l, h, hx => by
    unfold allStill at h
    rw [fold'_cons, bif'_eq] at h
    split at h
    case isFalse => cases h
    rename_i hy
    rcases List.mem_cons.1 hx with rfl | hx
    · exact hy
    · exact allStill_spec (l := l) h hx
theorem stills_spec {C : Cfg} {T : Tm} {H : List AO} {hm : Nat} {x : OI} {l : List OI} (h : stills C T H hm l = true) (hx : x ∈ l) (hh : hits hm x.ix = true) : still C T H x.o = true := by
  unfold stills at h
  rw [bif'_eq] at h
  split at h
  · rename_i h0
    rw [Nat.eq_of_beq_eq_true h0, hits_zero] at hh; cases hh
  · induction l with
    | nil => cases hx
    | cons y l ih =>
      rw [fold'_cons, bif'_eq] at h
      rcases List.mem_cons.1 hx with rfl | hx
      · rw [if_pos hh, bif'_eq] at h
        split at h
        · assumption
        · cases h
      · refine ih hx ?_
        split at h
        · rw [bif'_eq] at h
          split at h
          · exact h
          · cases h
        · exact h
theorem stills_held {C : Cfg} {W0 : World} (hC : CfgOk C W0) {n : Nat} {e : Env} {T : Tm} {a : Act} {H : List AO} {w : World} (rt : RT n e T a) (rh : RH W0 e H w) {ops : Array Oper} {hm : Nat} (h : stills C T H hm (oisOf ops) = true) : HeldS C.P ops hm a w := by
  intro i o ho hh
  obtain ⟨x, hx, rfl⟩ := oisOf_get ho
  have hok := oisOf_ok hx
  rw [hok.get] at ho; cases ho
  have hs := stills_spec h hx hh
  unfold still at hs
  split at hs
  case h_2 => cases hs
  rename_i d hd
  split at hs
  case h_2 => cases hs
  rename_i z hz
  split at hs
  case h_2 => cases hs
  rename_i z' hz'
  obtain ⟨hsure, v, gv, hrun⟩ := loadOf_sound hC rt rh hz'
  have := avEq_eq hs
  subst this
  have := sure_G hsure (rt.get d _ hz) gv
  exact ⟨d, hd, by rw [this]; exact hrun⟩

theorem xAny_sound {C : Cfg} {W0 : World} (hC : CfgOk C W0) {r : Runs} (hr : CallOk C W0 r.call) {n : Nat} {ops : Array Oper} (hns : Region.noSelect ops = true) {ahead : Bool} {e0 : Env} {h0 : Nat} (hh0 : e0.length = h0)
    {L' : List Lv} (hdone : ∀ p ∈ L', isDone (oisOf ops) p = true) {Q : Exit → Act → World → Prop} (hQn : ∀ p ∈ L', ∀ e a w, e0.le e → RT n e p.T a → RH W0 e p.H w → Q .normal a w) (hQp : ∀ c a w, ¬ Q (.panic c) a w) :
    ∀ (k : Nat) (L : List Lv), xAny C r ahead n ops (oisOf ops) h0 k L = some L' → ∀ p ∈ L, ∀ (S : World → Prop) (e : Env) (a : Act) (w : World) (listed : Array Bool), e0.le e → Inv C.P ops W0 n S p e a w listed →
      wpAnyH C.P .any ops Q S k listed a w := by
  intro k
  induction k with
  | zero =>
    intro L h p hp S e a w listed hle I
    have h' : some L = some L' := h
    simp only [Option.some.injEq] at h'; subst h'
    refine ⟨?_, hQn p hp e a w hle I.t I.h⟩
    have hd := hdone p hp
    unfold isDone at hd
    split at hd
    case h_2 => cases hd
    rename_i hnil
    rw [List.eq_nil_iff_forall_not_mem]
    intro j hj
    obtain ⟨_, oj, hoj, _⟩ := mem_ready.1 hj
    obtain ⟨x, hx, rfl⟩ := oisOf_get hoj
    have : x ∈ readies p.m (oisOf ops) := readies_spec.2 ⟨hx, (I.ready_iff (oisOf_ok hx)).2 hj⟩
    rw [hnil] at this; cases this
  | succ k ih =>
    intro L h p hp S e a w listed hle I
    have h' : (match bindM (some L) (xStep C r ahead n ops (oisOf ops)) with
      | some L1 => xAny C r ahead n ops (oisOf ops) h0 k (merge n h0 L1)
      | none => none) = some L' := h
    split at h'
    case h_2 => cases h'
    rename_i L1 hL1
    obtain ⟨l, hl, hm⟩ := bindM_mem hL1
    simp only [Option.some.injEq] at hl; subst hl
    obtain ⟨l1, hl1, hin⟩ := hm p hp
    -- from a state of the next round
    have go : ∀ q ∈ l1, ∀ (S : World → Prop) (e : Env) (a : Act) (w : World) (listed : Array Bool), e0.le e → Inv C.P ops W0 n S q e a w listed → wpAnyH C.P .any ops Q S k listed a w := by
      intro q hq S e a w listed hle I
      obtain ⟨q', hq', e', hlow, h1, h2, h3, h4⟩ := merge_sound (h0 := h0) (hin q hq) I.t I.h
      refine ih _ h' q' hq' S e' a w listed (fun i b hb => ?_) (I.same h1 h2 h3 h4)
      have hi : i < h0 := by rw [← hh0]; exact (List.getElem?_eq_some_iff.1 hb).1
      rw [hlow i hi]; exact hle i b hb
    unfold xStep at hl1
    split at hl1
    · -- a pure one
      rename_i x hx
      obtain ⟨x, z⟩ := x
      obtain ⟨hmem, hready, hneed, hy⟩ := firstPure_spec hx
      have hok := oisOf_ok hmem
      obtain ⟨v, gv, hyv⟩ := yieldP_sound I.t hy
      unfold xPure at hl1
      split at hl1
      case h_2 => cases hl1
      rename_i T' hT
      simp only [Option.some.injEq] at hl1; subst hl1
      have hrd := (I.ready_iff hok).1 hready
      have hun := (I.unlisted.1 (mem_ready.1 hrd).1).2
      refine wpAnyH_first hok.get (Region.noSelect_spec hns) (fun c a w h => absurd h (hQp _ _ _)) k listed a w (fun j oj hj hne hu hno => I.free hok hneed j oj hj hne hu hno) hrd hyv.yieldsIf (I.toS w I.held) ?_
      exact go _ (List.mem_singleton_self _) S e _ w _ hle (I.next hns hok.get hun rfl rfl (I.t.put hT gv) I.h ((I.heldPut hns hok.get hun v w).2 I.held))
    · split at hl1
      · -- a load, ahead
        rename_i x hx
        rw [bif'_eq] at hx
        split at hx
        case isFalse => cases hx
        obtain ⟨x, z⟩ := x
        obtain ⟨hmem, hload, hready, hneed, hy⟩ := firstLoad_spec hx
        obtain ⟨hneed, hneedL⟩ := sub'_lor hneed
        have hok := oisOf_ok hmem
        unfold yieldL at hy
        split at hy
        case h_2 => cases hy
        rename_i b hb
        have hw := awanted_sound I.t hb
        split at hy
        case h_2 => cases hy
        obtain ⟨hsure, v, gv, hrun⟩ := loadOf_sound hC I.t I.h hy
        unfold xPure at hl1
        split at hl1
        case h_2 => cases hl1
        rename_i T' hT
        simp only [Option.some.injEq] at hl1; subst hl1
        have hrd := (I.ready_iff hok).1 hready
        have hun := (I.unlisted.1 (mem_ready.1 hrd).1).2
        have hlt : x.ix < ops.size := (Array.getElem?_eq_some_iff.1 hok.get).1
        -- its own place
        have hself : selfOk ops x.o = true := by
          cases hs : selfOk ops x.o with
          | true => rfl
          | false =>
            have h1 := hok.needL hload
            rw [hs] at h1
            have h2 : hits x.needL ops.size = true := by rw [h1]; show hits (bit ops.size) _ = true; rw [hits_bit]; simp
            have h3 := sub'_hits hneedL h2
            rw [← I.lm, Array.getD_eq_getD_getElem?, Array.getElem?_eq_none (by rw [I.ls]; exact Nat.le_refl _)] at h3
            cases h3
        have hneedL' : x.needL = needLOf ops x.ix x.o ops.toList 0 := by
          have h1 := hok.needL hload
          rw [hself] at h1; exact h1
        unfold selfOk at hself
        split at hself
        case h_1 => cases hself
        rename_i d hd
        have hdl : d ∉ x.o.looksAt ops := fun hm => by
          rw [memN_iff.2 hm] at hself; cases hself
        have hexec : execOp (a.put x.o.dst v).eval x.o = execOp a.eval x.o :=
          execOp_put (ops := ops) x.o (isLoad_notSelect hload) a x.o.dst v fun d' hd' => by rw [hd] at hd'; cases hd'; exact hdl
        have hdn : d < n := by
          rw [hd] at hT
          unfold Tm.put at hT
          cases hb : Nat.ble (d + 1) n with
          | false => simp only [hb] at hT; cases hT
          | true => exact Nat.le_of_ble_eq_true hb
        have hgot : (a.put x.o.dst v).tmps.getD d undef = v := by
          rw [hd]
          have : d < a.tmps.size := by rw [I.t.size]; exact hdn
          simp [Act.put, Array.getD, this]
        let S2 : World → Prop := fun w' => S w' ∧ (execOp a.eval x.o).run C.P w' = .ok (.value v) w'
        have hyv : YieldsIf C.P ops S2 x.o v a := .inl ⟨hw, fun w' h => h.2⟩
        refine wpAnyH_mono (fun _ h => h.1) _ _ _ _ (wpAnyH_first (S := S2) hok.get (Region.noSelect_spec hns) (fun c a w h => absurd h (hQp _ _ _)) k listed a w (fun j oj hj hne hu hno => I.free hok hneed j oj hj hne hu hno) hrd hyv ⟨I.toS w I.held, hrun⟩ ?_)
        refine go _ (List.mem_singleton_self _) S2 e _ w _ hle ?_
        have heldIff : ∀ w', HeldS C.P ops (Nat.lor (bit x.ix) p.hm) (a.put x.o.dst v) w' ↔ HeldS C.P ops p.hm (a.put x.o.dst v) w' ∧ (execOp a.eval x.o).run C.P w' = .ok (.value v) w' := by
          intro w'
          constructor
          · intro h
            refine ⟨fun i o ho hi => h i o ho (by rw [hits_lor, hi]; simp), ?_⟩
            obtain ⟨d', hd', hrun'⟩ := h x.ix x.o hok.get (by rw [hits_lor, hits_bit]; simp)
            rw [hd] at hd'; cases hd'
            rw [hexec, hgot] at hrun'
            exact hrun'
          · rintro ⟨h1, h2⟩ i o ho hi
            rw [hits_lor, hits_bit] at hi
            by_cases hix : x.ix = i
            · subst hix
              rw [hok.get] at ho; cases ho
              exact ⟨d, hd, by rw [hexec, hgot]; exact h2⟩
            · simp only [hix, decide_false, Bool.false_or] at hi
              exact h1 i o ho hi
        exact {
          t := I.t.put hT gv
          h := I.h
          ls := by simp [I.ls]
          lm := fun i => I.listed_set hlt i
          held := (heldIff w).2 ⟨(I.heldPut hns hok.get hun v w).2 I.held, hrun⟩
          toS := fun w' h => by
            obtain ⟨h1, h2⟩ := (heldIff w').1 h
            exact ⟨I.toS w' ((I.heldPut hns hok.get hun v w').1 h1), h2⟩
          clr := fun i o j oj ho hi hj hne hu => by
            dsimp only at hi hu
            rw [hits_lor] at hi hu
            simp only [Bool.or_eq_false_iff] at hu
            by_cases hix : x.ix = i
            · subst hix
              rw [hok.get] at ho; cases ho
              rcases needLOf_spec (ops := ops) (i := x.ix) (x := x.o) ops.toList 0 j oj (by simpa using hj) with h | h | h
              · exact absurd (by omega) hne
              · exact h
              · rw [Nat.zero_add, ← hneedL'] at h
                have := sub'_hits hneedL h
                rw [hu.2] at this; cases this
            · rw [hits_bit] at hi
              simp only [hix, decide_false, Bool.false_or] at hi
              exact I.clr i o j oj ho hi hj hne hu.2
          got := fun i hi => by
            dsimp only at hi ⊢
            rw [hits_lor] at hi ⊢
            simp only [Bool.or_eq_true] at hi ⊢
            rcases hi with hi | hi
            · exact .inl hi
            · exact .inr (I.got i hi) }
      · -- whichever comes up
        split at hl1
        · rename_i hnil
          simp only [Option.some.injEq] at hl1; subst hl1
          have hr0 : Region.ready .any ops listed = [] := by
            rw [List.eq_nil_iff_forall_not_mem]
            intro j hj
            obtain ⟨_, oj, hoj, _⟩ := mem_ready.1 hj
            obtain ⟨x, hx, rfl⟩ := oisOf_get hoj
            have : x ∈ readies p.m (oisOf ops) := readies_spec.2 ⟨hx, (I.ready_iff (oisOf_ok hx)).2 hj⟩
            rw [hnil] at this; cases this
          have hk := go p (List.mem_singleton_self _) S e a w listed hle I
          refine wpAnyH_done hr0 ?_ _
          cases k with
          | zero => exact hk.2
          | succ k => exact hk.1 hr0
        · rename_i i is hrs
          obtain ⟨l2, hl2, hm2⟩ := bindM_mem hl1
          simp only [Option.some.injEq] at hl2; subst hl2
          have hne : Region.ready .any ops listed ≠ [] := fun h0 => by
            have hi : i ∈ readies p.m (oisOf ops) := by rw [hrs]; exact List.mem_cons_self
            obtain ⟨h1, h2⟩ := readies_spec.1 hi
            have := (I.ready_iff (oisOf_ok h1)).1 h2
            rw [h0] at this; cases this
          refine wpAnyH_all rfl hne fun j hj => ?_
          obtain ⟨hjl, oj, hoj, _⟩ := mem_ready.1 hj
          obtain ⟨x, hx, rfl⟩ := oisOf_get hoj
          have hok := oisOf_ok hx
          rw [hok.get] at hoj; cases hoj
          have hun := (I.unlisted.1 hjl).2
          have hxr : x ∈ i :: is := by rw [← hrs]; exact readies_spec.2 ⟨hx, (I.ready_iff hok).2 hj⟩
          obtain ⟨l3, hl3, hin3⟩ := hm2 x hxr
          unfold xBranch at hl3
          split at hl3
          case h_2 => cases hl3
          rename_i l4 hl4
          rw [bif'_eq] at hl3
          split at hl3
          case isFalse => cases hl3
          rename_i hstill
          simp only [Option.some.injEq] at hl3; subst hl3
          refine xPut_sound hC hr I.t I.h hok.get hl4 fun T' H' e' v w' hin4 hle' rt' rh' => ?_
          have hheld : HeldS C.P ops p.hm (a.put x.o.dst v) w' := stills_held hC rt' rh' (allStill_spec hstill hin4)
          refine ⟨I.toS w' ((I.heldPut hns hok.get hun v w').1 hheld), ?_⟩
          have hq : lvOf p.m p.hm x.ix (T', H') ∈ l1 := hin3 _ (List.mem_map.2 ⟨_, hin4, rfl⟩)
          exact go _ hq S e' _ w' _ (Env.le_trans hle hle') (I.next (q := lvOf p.m p.hm x.ix (T', H')) hns hok.get hun rfl rfl rt' rh' hheld)
end Go.Mill
end

noncomputable section
namespace Go.Mill
open Go
variable [Syms]

/-! ### code and calls -/
def AE.is : AE → Exit → Prop
  | .normal, .normal => True
  | .exit i, .exit j => i = j
  | .ret, .ret => True
  | _, _ => False
/-- What an ending of a piece of code is, by the outcomes. -/
def Post (W0 : World) (n : Nat) (e0 : Env) (outs : List (AE × Tm × List AO)) (ex : Exit) (a : Act) (w : World) : Prop :=
  ∃ ae T H e, (ae, T, H) ∈ outs ∧ ae.is ex ∧ e0.le e ∧ RT n e T a ∧ RH W0 e H w
theorem RH.drawn {W0 : World} {e : Env} {H : List AO} {w : World} (rh : RH W0 e H w) (k : Nat) : RH W0 e H { w with drawn := k } :=
  ⟨rh.len, fun i o b s h h' => (rh.ob i o b s h h').mono (Env.le_refl _) rfl, rh.inj, rh.lo, rh.size, rh.kept, rh.same⟩
def CodeOk (C : Cfg) (W0 : World) (code : Nat → Code → Tm → List AO → COuts) : Prop :=
  ∀ (n : Nat) (c : Code) (e : Env) (T : Tm) (a : Act) (H : List AO) (w : World) (outs : List (AE × Tm × List AO)), code n c T H = some outs → RT n e T a → RH W0 e H w → c.wp C.P (Post W0 n e outs) a w
def LoopOk (C : Cfg) (W0 : World) (m : Nat) (code : Nat → Code → Tm → List AO → COuts) : Prop :=
  ∀ (n : Nat) (c : Code) (e : Env) (T : Tm) (a : Act) (H : List AO) (w : World) (outs : List (AE × Tm × List AO)), code n (.loop c) T H = some outs → RT n e T a → RH W0 e H w → Code.rounds C.P c (Post W0 n e outs) m a w
theorem Post.mono {W0 : World} {n : Nat} {e e' : Env} {outs outs' : List (AE × Tm × List AO)} (hle : e.le e') (hin : ∀ y ∈ outs', y ∈ outs) {ex : Exit} {a : Act} {w : World} (h : Post W0 n e' outs' ex a w) : Post W0 n e outs ex a w := by
  obtain ⟨ae, T, H, e2, h1, h2, h3, h4, h5⟩ := h
  exact ⟨ae, T, H, e2, hin _ h1, h2, Env.le_trans hle h3, h4, h5⟩
theorem rounds_mono {P : Program} {c : Code} {Q Q' : Exit → Act → World → Prop} (hq : ∀ e a w, Q e a w → Q' e a w) : ∀ (k : Nat) (a : Act) (w : World), Code.rounds P c Q k a w → Code.rounds P c Q' k a w
  | 0, a, w, h => h
  | k + 1, a, w, h => wp_mono h fun e a w h => by
    cases e with
    | normal => exact rounds_mono hq k a w h
    | _ => exact hq _ _ _ h

theorem xLine_sound {C : Cfg} {W0 : World} (hC : CfgOk C W0) {r : Runs} (hr : CallOk C W0 r.call) {n id : Nat} {ops : Array Oper} {e : Env} {T : Tm} {a : Act} {H : List AO} {w : World} {outs : List (AE × Tm × List AO)}
    (h : xLine C r n ops T H = some outs) (rt : RT n e T a) (rh : RH W0 e H w) : (Code.region id ops false).wp C.P (Post W0 n e outs) a w := by
  unfold xLine at h
  split at h
  case h_2 => cases h
  rename_i l hl
  simp only [Option.some.injEq] at h; subst h
  refine wp_region ?_
  have := xOps_sound hC hr (Q := Post W0 n e (l.map outN)) (e0 := e) ops.toList 0 rfl e T a H w l (Env.le_refl _) rt rh hl fun T' H' e' a' w' hin hle rt' rh' =>
    ⟨.normal, T', H', e', List.mem_map.2 ⟨_, hin, rfl⟩, trivial, hle, rt', rh'⟩
  rw [List.range_eq_range', ← Array.length_toList]
  exact this
theorem allDone_spec {infos : List OI} {L : List Lv} {outs : List (AE × Tm × List AO)} (h : allDone infos L = some outs) : (∀ p ∈ L, isDone infos p = true) ∧ outs = L.map outL := by
  unfold allDone at h
  rw [bif'_eq] at h
  split at h
  case isFalse => cases h
  rename_i hd
  simp only [Option.some.injEq] at h
  refine ⟨?_, h.symm⟩
  clear h
  induction L with
  | nil => intro p hp; cases hp
  | cons q L ih =>
    rw [fold'_cons, bif'_eq] at hd
    split at hd
    case isFalse => cases hd
    rename_i hq
    intro p hp
    rcases List.mem_cons.1 hp with rfl | hp
    · exact hq
    · exact ih hd p hp
theorem xDraw1_sound {C : Cfg} {W0 : World} (hC : CfgOk C W0) {r : Runs} (hr : CallOk C W0 r.call) {ahead : Bool} {n id : Nat} {ops : Array Oper} {e : Env} {T : Tm} {a : Act} {H : List AO} {w : World} {outs : List (AE × Tm × List AO)}
    (hns : Region.noSelect ops = true) (h : xDraw1 C r ahead n ops T H = some outs) (rt : RT n e T a) (rh : RH W0 e H w) : (Code.region id ops true).wp C.P (Post W0 n e outs) a w := by
  unfold xDraw1 at h
  split at h
  case h_2 => cases h
  rename_i L hL
  obtain ⟨hd, rfl⟩ := allDone_spec h
  refine wp_region_held (S := fun _ => True) hC.mixed ?_
  refine xAny_sound hC hr hns (e0 := e) rh.len hd (fun p hp e' a' w' hle rt' rh' => ⟨.normal, p.T, p.H, e', List.mem_map.2 ⟨p, hp, rfl⟩, trivial, hle, rt', rh'⟩)
    (fun c a w hq => by obtain ⟨ae, _, _, _, _, h2, _⟩ := hq; cases ae <;> exact h2) ops.size _ hL ⟨0, 0, T, H⟩ (List.mem_singleton_self _) (fun _ => True) e a _ _ (Env.le_refl _) ?_
  exact {
    t := rt
    h := rh.drawn _
    ls := by simp
    lm := fun i => by
      rw [hits_zero, Array.getD_eq_getD_getElem?]
      cases hh : (Array.replicate ops.size false)[i]? with
      | none => rfl
      | some b =>
        have := Array.mem_of_getElem? hh
        rw [Array.mem_replicate] at this
        rw [this.2]; rfl
    held := fun i o ho hi => by rw [hits_zero] at hi; cases hi
    toS := fun _ _ => trivial
    clr := fun i o j oj ho hi => by rw [hits_zero] at hi; cases hi
    got := fun i hi => by rw [hits_zero] at hi; cases hi }
theorem xDraw_sound {C : Cfg} {W0 : World} (hC : CfgOk C W0) {r : Runs} (hr : CallOk C W0 r.call) {n id : Nat} {ops : Array Oper} {e : Env} {T : Tm} {a : Act} {H : List AO} {w : World} {outs : List (AE × Tm × List AO)}
    (h : xDraw C r n ops T H = some outs) (rt : RT n e T a) (rh : RH W0 e H w) : (Code.region id ops true).wp C.P (Post W0 n e outs) a w := by
  unfold xDraw at h
  rw [bif'_eq] at h
  split at h
  case isFalse => cases h
  rename_i hns
  split at h
  · rename_i l hl
    simp only [Option.some.injEq] at h; subst h
    exact xDraw1_sound hC hr hns hl rt rh
  · exact xDraw1_sound hC hr hns h rt rh
theorem tm0_get : ∀ (l : List AV) (k t : Nat) (x : AV), (tm0 k l).get t = some x → ∃ j, t = k + j ∧ l[j]? = some x
  | [], k, t, x, h => by cases h
  | y :: ys, k, t, x, h => by
    simp only [tm0, Tm.get_cons] at h
    split at h
    · rename_i hb
      simp only [Option.some.injEq] at h; subst h
      exact ⟨0, (Nat.eq_of_beq_eq_true hb).symm, rfl⟩
    · obtain ⟨j, hj, hx⟩ := tm0_get ys (k + 1) t x h
      exact ⟨j + 1, by omega, by simpa using hx⟩
theorem callStep_sound {C : Cfg} {W0 : World} (hC : CfgOk C W0) {r : Runs} (hc : CodeOk C W0 r.code) : CallOk C W0 (callStep C r) := by
  intro e H w f as ws outs h rh gw
  unfold callStep at h
  split at h
  · cases h
  rename_i fn hfn
  split at h
  · cases h
  rename_i c hb
  rw [bif'_eq] at h
  split at h
  case isFalse => cases h
  rename_i hle
  have hle : as.length ≤ fn.ntmps := Nat.le_of_ble_eq_true hle
  obtain ⟨l, hl, hm⟩ := bindM_mem h
  have hsz : ws.size = as.length := by rw [← Array.length_toList]; exact gw.length
  have rt : RT fn.ntmps e (tm0 0 as) { tmps := ws ++ Array.replicate (fn.ntmps - ws.size) undef, defers := [] } := by
    refine ⟨by simp; omega, rfl, fun t x hx => ?_⟩
    obtain ⟨j, rfl, hj⟩ := tm0_get as 0 t x hx
    obtain ⟨y, hy, g⟩ := gw.get hj
    have hlt : j < ws.size := by
      rw [hsz]; exact (List.getElem?_eq_some_iff.1 hj).1
    have : (ws ++ Array.replicate (fn.ntmps - ws.size) undef).getD (0 + j) undef = y := by
      rw [Nat.zero_add, Array.getD_eq_getD_getElem?, Array.getElem?_append_left hlt]
      rw [Array.getElem?_toList] at hy
      rw [hy]; rfl
    rw [this]; exact g
  refine calls_of_wp (by exact hfn) hb (wp_mono (hc fn.ntmps c e (tm0 0 as) _ H w l hl rt rh) fun ex a' w' hp => ?_)
  obtain ⟨ae, T', H', e', hin, his, hle', rt', rh'⟩ := hp
  obtain ⟨l', h1, h2⟩ := hm _ hin
  unfold callK at h1
  have fin : (match aresult C.P C.R T' H' fn.results.toList with
    | some r => some [(r, H')]
    | none => none) = some l' → a'.defers = [] ∧ ∃ v, (results fn a'.tmps).run C.P w' = .ok v w' ∧ ∃ z H2 v2 e2, Ending.returned v = .returned v2 ∧ (z, H2) ∈ outs ∧ e.le e2 ∧ G e2 z v2 ∧ RH W0 e2 H2 w' := by
    intro h1
    split at h1
    case h_2 => cases h1
    rename_i z hz
    simp only [Option.some.injEq] at h1; subst h1
    obtain ⟨v, g, hv⟩ := aresult_sound hC.ro rt' rh' hz
    exact ⟨rt'.defers, v, hv, z, H', v, e', rfl, h2 _ (by simp), hle', g, rh'⟩
  cases ae with
  | exit i => cases h1
  | normal => cases ex with
    | normal => exact fin h1
    | _ => exact his.elim
  | ret => cases ex with
    | ret => exact fin h1
    | _ => exact his.elim
theorem codeStep_sound {C : Cfg} {W0 : World} (hC : CfgOk C W0) {r : Runs} {m : Nat} (hr : CallOk C W0 r.call) (hc : CodeOk C W0 r.code) (hl : LoopOk C W0 m r.code) : CodeOk C W0 (codeStep C r) ∧ LoopOk C W0 (m + 1) (codeStep C r) := by
  have loops : LoopOk C W0 (m + 1) (codeStep C r) := by
    intro n c e T a H w outs h rt rh
    have h' : bindM (r.code n c T H) (seqK r n (.loop c)) = some outs := h
    obtain ⟨l, h1, h2⟩ := bindM_mem h'
    refine wp_mono (hc n c e T a H w l h1 rt rh) fun ex a' w' hp => ?_
    obtain ⟨ae, T', H', e', hin, his, hle, rt', rh'⟩ := hp
    obtain ⟨l', h3, h4⟩ := h2 _ hin
    unfold seqK at h3
    cases ae with
    | normal =>
      cases ex with
      | normal => exact rounds_mono (fun _ _ _ hq => hq.mono hle h4) m a' w' (hl n c e' T' a' H' w' l' h3 rt' rh')
      | _ => exact his.elim
    | exit i =>
      simp only [Option.some.injEq] at h3; subst h3
      cases ex with
      | exit j => exact ⟨.exit i, T', H', e', h4 _ (by simp), his, hle, rt', rh'⟩
      | _ => exact his.elim
    | ret =>
      simp only [Option.some.injEq] at h3; subst h3
      cases ex with
      | ret => exact ⟨.ret, T', H', e', h4 _ (by simp), his, hle, rt', rh'⟩
      | _ => exact his.elim
  refine ⟨?_, loops⟩
  intro n c e T a H w outs h rt rh
  cases c with
  | skip =>
    simp only [codeStep, Option.some.injEq] at h; subst h
    exact wp_skip ⟨.normal, T, H, e, by simp, trivial, Env.le_refl _, rt, rh⟩
  | label l =>
    simp only [codeStep, Option.some.injEq] at h; subst h
    exact wp_label ⟨.normal, T, H, e, by simp, trivial, Env.le_refl _, rt, rh⟩
  | region id ops draw =>
    simp only [codeStep, bif'_eq] at h
    cases draw with
    | true => exact xDraw_sound hC hr (by simpa using h) rt rh
    | false => exact xLine_sound hC hr (by simpa using h) rt rh
  | seq x y =>
    simp only [codeStep] at h
    obtain ⟨l, h1, h2⟩ := bindM_mem h
    refine wp_seq (wp_mono (hc n x e T a H w l h1 rt rh) fun ex a' w' hp => ?_)
    obtain ⟨ae, T', H', e', hin, his, hle, rt', rh'⟩ := hp
    obtain ⟨l', h3, h4⟩ := h2 _ hin
    unfold seqK at h3
    cases ae with
    | normal =>
      cases ex with
      | normal => exact wp_mono (hc n y e' T' a' H' w' l' h3 rt' rh') fun _ _ _ hq => hq.mono hle h4
      | _ => exact his.elim
    | exit i =>
      simp only [Option.some.injEq] at h3; subst h3
      cases ex with
      | exit j => exact ⟨.exit i, T', H', e', h4 _ (by simp), his, hle, rt', rh'⟩
      | _ => exact his.elim
    | ret =>
      simp only [Option.some.injEq] at h3; subst h3
      cases ex with
      | ret => exact ⟨.ret, T', H', e', h4 _ (by simp), his, hle, rt', rh'⟩
      | _ => exact his.elim
  | cond c x y =>
    simp only [codeStep] at h
    unfold condK at h
    split at h
    case h_2 => cases h
    rename_i z hz
    split at h
    case h_2 => cases h
    rename_i v
    split at h
    case h_2 => cases h
    rename_i t
    have g := aeval_G rt hz
    simp only [G] at g
    refine wp_cond g ?_
    rw [bif'_eq] at h
    cases t with
    | true => exact hc n x e T a H w outs (by simpa using h) rt rh
    | false => exact hc n y e T a H w outs (by simpa using h) rt rh
  | block id b =>
    simp only [codeStep] at h
    split at h
    case h_2 => cases h
    rename_i l hl'
    simp only [Option.some.injEq] at h; subst h
    refine wp_block (wp_mono (hc n b e T a H w l hl' rt rh) fun ex a' w' hp => ?_)
    obtain ⟨ae, T', H', e', hin, his, hle, rt', rh'⟩ := hp
    have hmem : blockK id (ae, T', H') ∈ l.map (blockK id) := List.mem_map.2 ⟨_, hin, rfl⟩
    cases ae with
    | normal =>
      cases ex with
      | normal => exact ⟨.normal, T', H', e', hmem, trivial, hle, rt', rh'⟩
      | _ => exact his.elim
    | ret =>
      cases ex with
      | ret => exact ⟨.ret, T', H', e', hmem, trivial, hle, rt', rh'⟩
      | _ => exact his.elim
    | exit i =>
      cases ex with
      | exit j =>
        have hij : i = j := his
        subst hij
        simp only [Exit.inBlock]
        simp only [blockK, bif'_eq] at hmem
        by_cases hid : i = id
        · subst hid
          rw [if_pos (Nat.beq_refl _)] at hmem
          rw [if_pos rfl]
          exact ⟨.normal, T', H', e', hmem, trivial, hle, rt', rh'⟩
        · rw [if_neg (by rw [nbeq hid]; simp)] at hmem
          rw [if_neg hid]
          exact ⟨.exit i, T', H', e', hmem, rfl, hle, rt', rh'⟩
      | _ => exact his.elim
  | loop b => exact wp_loop_rounds (m + 1) (loops n b e T a H w outs h rt rh)
  | scope b =>
    simp only [codeStep] at h
    refine wp_scope_straight (wp_mono (hc n b e T a H w outs h rt rh) fun ex a' w' hp => ?_)
    cases ex with
    | goto l => obtain ⟨ae, _, _, _, _, h2, _⟩ := hp; cases ae <;> exact h2
    | _ => exact hp
  | exit id =>
    simp only [codeStep, Option.some.injEq] at h; subst h
    exact wp_exit ⟨.exit id, T, H, e, by simp, rfl, Env.le_refl _, rt, rh⟩
  | ret =>
    simp only [codeStep, Option.some.injEq] at h; subst h
    exact wp_ret ⟨.ret, T, H, e, by simp, trivial, Env.le_refl _, rt, rh⟩
  | _ => simp [codeStep] at h
theorem run_sound {C : Cfg} {W0 : World} (hC : CfgOk C W0) : ∀ m, CallOk C W0 (run C m).call ∧ CodeOk C W0 (run C m).code ∧ LoopOk C W0 m (run C m).code
  | 0 => by
    refine ⟨?_, ?_, ?_⟩
    · intro e H w f as ws outs h rh gw; cases h
    · intro n c e T a H w outs h rt rh; cases h
    · intro n c e T a H w outs h rt rh; cases h
  | m + 1 => by
    obtain ⟨h1, h2, h3⟩ := run_sound hC m
    exact ⟨callStep_sound hC h2, codeStep_sound hC h1 h2 h3⟩
/-- **THE MILL**: what the run reckoned ahead yields is what a call comes to. -/
theorem xCall_sound {C : Cfg} {W0 : World} (hC : CfgOk C W0) {m : Nat} {f : FuncId} {as : List AV} {H : List AO} {outs : List (AV × List AO)} (h : xCall C m f as H = some outs) {e : Env} {w : World} {ws : Array Value}
    (rh : RH W0 e H w) (gw : Gs e as ws.toList) :
    Calls C.P f ws w fun ex w' => ∃ z H' v e', ex = .returned v ∧ (z, H') ∈ outs ∧ e.le e' ∧ G e' z v ∧ RH W0 e' H' w' :=
  (run_sound hC m).1 e H w f as ws outs h rh gw
end Go.Mill
end
