/- The mill: a run of Go code that is reckoned ahead in the kernel, and its soundness. Conditions: none. Part A. -/
import Derived.Orders
import Derived.Laws.Cells
import Derived.KernelRfl
import Derived.Laws.Sem
set_option linter.unusedVariables false
set_option linter.unusedSectionVars false
set_option linter.unusedSimpArgs false
namespace Go.Mill
open Go

/-! ### Values and blocks as a run that is reckoned ahead sees them -/
inductive AV where
  | v (x : Value)
  | ptr (i off : Nat)
  | sl (i off len cap : Nat)
  | slu (i off len k : Nat)
  | mp (i : Nat)
  | fn (f : Fn) (first cap : List AV)
  | agg (cs : List AV)
  | tup (vs : List AV)
  | ifc (t : TypeId) (x : AV)
  | top
  | sym (i : Nat)
  deriving Inhabited

/-- What the signs stand for that the run hands on unread. -/
class Syms where
  val : Nat → Value
  one : ∀ i, (val i).oneCell' = true
variable [Syms]

abbrev Env := List (Nat × Nat)

mutual
def G (e : Env) : AV → Value → Prop
  | .v x, y => y = x
  | .ptr i off, y => ∃ b s, e[i]? = some (b, s) ∧ y = .pointer (some ⟨b, off, none⟩)
  | .sl i off len cap, y => ∃ b s, e[i]? = some (b, s) ∧ y = .slice (some ⟨b, off, none⟩) len cap
  | .slu i off len k, y => ∃ b s c, e[i]? = some (b, s) ∧ len ≤ c ∧ off + c * k = s ∧ y = .slice (some ⟨b, off, none⟩) len c
  | .mp i, y => ∃ b s, e[i]? = some (b, s) ∧ y = .map (some b)
  | .fn f first cap, y => ∃ l m, y = .func f l m ∧ Gs e first l.toList ∧ Gs e cap m.toList
  | .agg cs, y => ∃ l, y = .agg l ∧ Gs e cs l.toList
  | .tup vs, y => ∃ l, y = .tuple l ∧ Gs e vs l.toList
  | .ifc t x, y => ∃ z, y = .iface t z ∧ G e x z
  | .top, y => y.cells = #[y]
  | .sym i, y => y = Syms.val i
def Gs (e : Env) : List AV → List Value → Prop
  | [], ys => ys = []
  | x :: xs, ys => ∃ z zs, ys = z :: zs ∧ G e x z ∧ Gs e xs zs
end

mutual
def AV.exact : AV → Option Value
  | .v x => some x
  | .agg cs => (AV.exacts cs).map fun l => .agg l.toArray
  | .tup vs => (AV.exacts vs).map fun l => .tuple l.toArray
  | .ifc t x => (AV.exact x).map fun z => .iface t z
  | .fn f a b => do let l ← AV.exacts a; let m ← AV.exacts b; pure (.func f l.toArray m.toArray)
  | _ => none
def AV.exacts : List AV → Option (List Value)
  | [] => some []
  | x :: xs => do let z ← AV.exact x; let zs ← AV.exacts xs; pure (z :: zs)
end

mutual
theorem exact_G {e : Env} : ∀ {x : AV} {z y : Value}, x.exact = some z → G e x y → y = z
  | .v x, z, y, h, g => by simp only [AV.exact, Option.some.injEq] at h; simp only [G] at g; rw [g, h]
  | .agg cs, z, y, h, g => by
    simp only [AV.exact, Option.map_eq_some_iff] at h
    obtain ⟨l, h1, h2⟩ := h
    simp only [G] at g
    obtain ⟨m, g1, g2⟩ := g
    have := exacts_Gs h1 g2
    subst g1 h2; rw [← this]
  | .tup cs, z, y, h, g => by
    simp only [AV.exact, Option.map_eq_some_iff] at h
    obtain ⟨l, h1, h2⟩ := h
    simp only [G] at g
    obtain ⟨m, g1, g2⟩ := g
    have := exacts_Gs h1 g2
    subst g1 h2; rw [← this]
  | .ifc t x, z, y, h, g => by
    simp only [AV.exact, Option.map_eq_some_iff] at h
    obtain ⟨l, h1, h2⟩ := h
    simp only [G] at g
    obtain ⟨m, g1, g2⟩ := g
    have := exact_G h1 g2
    subst g1 h2; rw [this]
  | .fn f a b, z, y, h, g => by
    simp only [AV.exact, Option.bind_eq_bind, Option.bind_eq_some_iff] at h
    obtain ⟨l, h1, m, h2, h3⟩ := h
    simp only [G] at g
    obtain ⟨l', m', g1, g2, g3⟩ := g
    have e1 := exacts_Gs h1 g2
    have e2 := exacts_Gs h2 g3
    simp only [Option.pure_def, Option.some.injEq] at h3
    subst g1 h3; rw [← e1, ← e2]
  | .ptr .., z, y, h, g => by simp [AV.exact] at h
  | .sl .., z, y, h, g => by simp [AV.exact] at h
  | .slu .., z, y, h, g => by simp [AV.exact] at h
  | .mp .., z, y, h, g => by simp [AV.exact] at h
  | .top, z, y, h, g => by simp [AV.exact] at h
  | .sym _, z, y, h, g => by simp [AV.exact] at h
theorem exacts_Gs {e : Env} : ∀ {xs : List AV} {zs ys : List Value}, AV.exacts xs = some zs → Gs e xs ys → ys = zs
  | [], zs, ys, h, g => by simp only [AV.exacts, Option.some.injEq] at h; simp only [Gs] at g; rw [g, h]
  | x :: xs, zs, ys, h, g => by
    simp only [AV.exacts, Option.bind_eq_bind, Option.bind_eq_some_iff] at h
    obtain ⟨l, h1, m, h2, h3⟩ := h
    simp only [Gs] at g
    obtain ⟨z', zs', g1, g2, g3⟩ := g
    have e1 := exact_G h1 g2
    have e2 := exacts_Gs h2 g3
    simp only [Option.pure_def, Option.some.injEq] at h3
    rw [g1, e1, e2, h3]
end

/-- An environment that says more. -/
def Env.le (e e' : Env) : Prop := ∀ (i : Nat) (p : Nat × Nat), e[i]? = some p → e'[i]? = some p
theorem Env.le_refl (e : Env) : e.le e := fun _ _ h => h
theorem Env.le_trans {a b c : Env} (h : a.le b) (h' : b.le c) : a.le c := fun i p x => h' i p (h i p x)
theorem Env.le_snoc (e : Env) (p : Nat × Nat) : e.le (e ++ [p]) := fun i q h => by
  have := (List.getElem?_eq_some_iff.1 h).1
  rw [List.getElem?_append_left this]; exact h

mutual
theorem G.mono {e e' : Env} (he : e.le e') : ∀ {x : AV} {y : Value}, G e x y → G e' x y
  | .v x, y, g => by simpa only [G] using g
  | .ptr i off, y, g => by simp only [G] at g ⊢; obtain ⟨b, s, h, r⟩ := g; exact ⟨b, s, he _ _ h, r⟩
  | .sl .., y, g => by simp only [G] at g ⊢; obtain ⟨b, s, h, r⟩ := g; exact ⟨b, s, he _ _ h, r⟩
  | .slu .., y, g => by simp only [G] at g ⊢; obtain ⟨b, s, c, h, r⟩ := g; exact ⟨b, s, c, he _ _ h, r⟩
  | .mp .., y, g => by simp only [G] at g ⊢; obtain ⟨b, s, h, r⟩ := g; exact ⟨b, s, he _ _ h, r⟩
  | .fn f a b, y, g => by simp only [G] at g ⊢; obtain ⟨l, m, h, h1, h2⟩ := g; exact ⟨l, m, h, Gs.mono he h1, Gs.mono he h2⟩
  | .agg cs, y, g => by simp only [G] at g ⊢; obtain ⟨l, h, h1⟩ := g; exact ⟨l, h, Gs.mono he h1⟩
  | .tup cs, y, g => by simp only [G] at g ⊢; obtain ⟨l, h, h1⟩ := g; exact ⟨l, h, Gs.mono he h1⟩
  | .ifc t x, y, g => by simp only [G] at g ⊢; obtain ⟨z, h, h1⟩ := g; exact ⟨z, h, G.mono he h1⟩
  | .top, y, g => by simpa only [G] using g
  | .sym _, y, g => by simpa only [G] using g
theorem Gs.mono {e e' : Env} (he : e.le e') : ∀ {xs : List AV} {ys : List Value}, Gs e xs ys → Gs e' xs ys
  | [], ys, g => by simpa only [Gs] using g
  | x :: xs, ys, g => by simp only [Gs] at g ⊢; obtain ⟨z, zs, h, h1, h2⟩ := g; exact ⟨z, zs, h, G.mono he h1, Gs.mono he h2⟩
end
theorem Gs.length {e : Env} : ∀ {xs : List AV} {ys : List Value}, Gs e xs ys → ys.length = xs.length
  | [], _, g => by simp only [Gs] at g; rw [g]; rfl
  | _ :: xs, _, g => by simp only [Gs] at g; obtain ⟨z, zs, h, _, h2⟩ := g; rw [h, List.length_cons, Gs.length h2, List.length_cons]
theorem Gs.append {e : Env} : ∀ {xs : List AV} {ys : List Value} {us : List AV} {vs : List Value}, Gs e xs ys → Gs e us vs → Gs e (xs ++ us) (ys ++ vs)
  | [], _, _, _, g, g' => by simp only [Gs] at g; subst g; exact g'
  | _ :: xs, _, _, _, g, g' => by simp only [Gs] at g; obtain ⟨z, zs, h, h1, h2⟩ := g; subst h; simp only [List.cons_append, Gs]; exact ⟨_, _, rfl, h1, h2.append g'⟩
theorem Gs.take {e : Env} (n : Nat) : ∀ {xs : List AV} {ys : List Value}, Gs e xs ys → Gs e (xs.take n) (ys.take n) := by
  induction n with
  | zero => intro xs ys _; simp [Gs]
  | succ n ih =>
    intro xs ys g
    cases xs with
    | nil => simp only [Gs] at g; subst g; simp [Gs]
    | cons x xs => simp only [Gs] at g; obtain ⟨z, zs, h, h1, h2⟩ := g; subst h; simp only [List.take_succ_cons, Gs]; exact ⟨_, _, rfl, h1, ih h2⟩
theorem Gs.drop {e : Env} (n : Nat) : ∀ {xs : List AV} {ys : List Value}, Gs e xs ys → Gs e (xs.drop n) (ys.drop n) := by
  induction n with
  | zero => intro xs ys g; simpa using g
  | succ n ih =>
    intro xs ys g
    cases xs with
    | nil => simp only [Gs] at g; subst g; simp [Gs]
    | cons x xs => simp only [Gs] at g; obtain ⟨z, zs, h, h1, h2⟩ := g; subst h; simp only [List.drop_succ_cons]; exact ih h2
theorem Gs.get {e : Env} : ∀ {xs : List AV} {ys : List Value} {i : Nat} {x : AV}, Gs e xs ys → xs[i]? = some x → ∃ y, ys[i]? = some y ∧ G e x y
  | [], _, i, x, _, h => by simp at h
  | x0 :: xs, ys, i, x, g, h => by
    simp only [Gs] at g; obtain ⟨z, zs, h0, h1, h2⟩ := g; subst h0
    cases i with
    | zero => simp at h; subst h; exact ⟨z, rfl, h1⟩
    | succ i => simp at h; obtain ⟨y, a, b⟩ := h2.get h; exact ⟨y, by simpa using a, b⟩
theorem Gs.set {e : Env} : ∀ {xs : List AV} {ys : List Value} (i : Nat) {x : AV} {y : Value}, Gs e xs ys → G e x y → Gs e (xs.set i x) (ys.set i y)
  | [], ys, i, x, y, g, _ => by simp only [Gs] at g; subst g; simp [Gs]
  | x0 :: xs, ys, i, x, y, g, hx => by
    simp only [Gs] at g; obtain ⟨z, zs, h0, h1, h2⟩ := g; subst h0
    cases i with
    | zero => simp only [List.set_cons_zero, Gs]; exact ⟨_, _, rfl, hx, h2⟩
    | succ i => simp only [List.set_cons_succ, Gs]; exact ⟨_, _, rfl, h1, h2.set i hx⟩
theorem Gs.exact {e : Env} : ∀ (l : List Value), Gs e (l.map .v) l
  | [] => by simp [Gs]
  | x :: l => by simp only [List.map_cons, Gs]; exact ⟨_, _, rfl, by simp [G], Gs.exact l⟩

/-- The cells of a value. -/
def AV.cells : AV → List AV
  | .agg cs => cs
  | .v (.agg a) => a.toList.map .v
  | x => [x]
theorem G.cells {e : Env} {x : AV} {y : Value} (g : G e x y) : Gs e x.cells y.cells.toList := by
  cases x with
  | agg cs => simp only [G] at g; obtain ⟨l, rfl, h⟩ := g; exact h
  | v z =>
    simp only [G] at g; subst g
    cases y <;> first | exact Gs.exact _ | (simp only [AV.cells, Value.cells, Gs]; exact ⟨_, _, rfl, rfl, rfl⟩)
  | ptr | sl | mp =>
    simp only [G] at g; obtain ⟨b, s, h, rfl⟩ := g
    simp only [AV.cells, Value.cells, Gs]; exact ⟨_, _, rfl, ⟨b, s, h, rfl⟩, rfl⟩
  | slu =>
    simp only [G] at g; obtain ⟨b, s, c, h, h1, h2, rfl⟩ := g
    simp only [AV.cells, Value.cells, Gs]; exact ⟨_, _, rfl, ⟨b, s, c, h, h1, h2, rfl⟩, rfl⟩
  | fn =>
    simp only [G] at g; obtain ⟨l, m, rfl, h1, h2⟩ := g
    simp only [AV.cells, Value.cells, Gs]; exact ⟨_, _, rfl, ⟨l, m, rfl, h1, h2⟩, rfl⟩
  | tup =>
    simp only [G] at g; obtain ⟨l, rfl, h1⟩ := g
    simp only [AV.cells, Value.cells, Gs]; exact ⟨_, _, rfl, ⟨l, rfl, h1⟩, rfl⟩
  | ifc =>
    simp only [G] at g; obtain ⟨z, rfl, h1⟩ := g
    simp only [AV.cells, Value.cells, Gs]; exact ⟨_, _, rfl, ⟨z, rfl, h1⟩, rfl⟩
  | top =>
    have h : y.cells = #[y] := by simpa only [G] using g
    simp only [AV.cells, h, Gs]; exact ⟨_, _, rfl, g, rfl⟩
  | sym i =>
    simp only [G] at g; subst g
    have h := Syms.one i
    have hc : (Syms.val i).cells = #[Syms.val i] := by cases hv : Syms.val i <;> simp_all [Value.oneCell', Value.cells]
    simp only [AV.cells, hc, Gs]; exact ⟨_, _, rfl, rfl, rfl⟩

/-! ### blocks -/
inductive AO where
  | cells (cs : List AV) (t : TypeId) (spare ro : Bool)
  | map (es : List (AV × AV × Nat)) (clock : Nat)
  | siter (s : ByteArray) (pos : Nat)
  | miter (m since : Nat) (seen : List Nat) (stepped : Nat)
  | dead
  deriving Inhabited

/-- A map's entries. -/
def Es (e : Env) : List (AV × AV × Nat) → List MapEntry → Prop
  | [], l => l = []
  | (k, x, n) :: es, l => ∃ c l', l = c :: l' ∧ G e k c.key ∧ G e x c.val ∧ c.born = n ∧ Es e es l'
theorem Es.mono {e e' : Env} (he : e.le e') : ∀ {es : List (AV × AV × Nat)} {l : List MapEntry}, Es e es l → Es e' es l
  | [], _, g => g
  | (_, _, _) :: _, _, g => by simp only [Es] at g ⊢; obtain ⟨c, l', h, h1, h2, h3, h4⟩ := g; exact ⟨c, l', h, h1.mono he, h2.mono he, h3, Es.mono he h4⟩

/-- Block number b of size s is as the run sees it. -/
def OB (e : Env) (w : World) (b s : Nat) : AO → Prop
  | .cells cs t spare ro => ∃ C lo hi, w.heap[b]? = some (.cells C t (lo, hi)) ∧ C.size = s ∧ (∃ vs extra, C.toList = vs ++ extra ∧ Gs e cs vs ∧ (spare = false → extra = [])) ∧ (ro = false → s ≤ lo ∨ hi = lo)
  | .map es clock => ∃ M, w.heap[b]? = some (.map M clock) ∧ Es e es M.toList
  | .siter s pos => w.heap[b]? = some (.stringIter s pos)
  | .miter m since seen stepped => ∃ c z, e[m]? = some (c, z) ∧ w.heap[b]? = some (.mapIter (some c) since seen.toArray stepped)
  | .dead => True
theorem OB.mono {e e' : Env} (he : e.le e') {w w' : World} {b s : Nat} (hw : w'.heap[b]? = w.heap[b]?) : ∀ {o : AO}, OB e w b s o → OB e' w' b s o
  | .cells .., ⟨C, lo, hi, h, h1, ⟨vs, ex, h2, h3, h4⟩, h5⟩ => ⟨C, lo, hi, hw.trans h, h1, ⟨vs, ex, h2, h3.mono he, h4⟩, h5⟩
  | .map .., ⟨M, h, h1⟩ => ⟨M, hw.trans h, h1.mono he⟩
  | .siter .., h => hw.trans h
  | .miter .., ⟨c, z, h, h1⟩ => ⟨c, z, he _ _ h, hw.trans h1⟩
  | .dead, _ => trivial

/-- The world as the run sees it: its own blocks; whatever lay there when it began is as it was (W0). -/
structure RH (W0 : World) (e : Env) (H : List AO) (w : World) : Prop where
  len : e.length = H.length
  ob : ∀ (i : Nat) (o : AO) (b s : Nat), H[i]? = some o → e[i]? = some (b, s) → OB e w b s o
  inj : ∀ (i j b s s' : Nat), e[i]? = some (b, s) → e[j]? = some (b, s') → H[i]? ≠ some .dead → H[j]? ≠ some .dead → i = j
  lo : ∀ (i b s : Nat), e[i]? = some (b, s) → W0.heap.size ≤ b ∧ b < w.heap.size
  size : W0.heap.size ≤ w.heap.size
  kept : ∀ (b : Nat), b < W0.heap.size → w.heap[b]? = W0.heap[b]?
  same : w.os = W0.os ∧ w.output = W0.output ∧ w.tape = W0.tape

/-- What a step from one view to another may do. -/
structure Grow (e : Env) (H : List AO) (e' : Env) (H' : List AO) : Prop where
  le : e.le e'

theorem RH.push {W0 : World} {e : Env} {H : List AO} {w : World} (r : RH W0 e H w) (ob : Obj) (s : Nat) (o : AO)
    (ho : ∀ e' w', e.le e' → w'.heap[w.heap.size]? = some ob → OB e' w' w.heap.size s o) :
    RH W0 (e ++ [(w.heap.size, s)]) (H ++ [o]) { w with heap := w.heap.push ob } := by
  have keep : ∀ b, b < w.heap.size → (w.heap.push ob)[b]? = w.heap[b]? := fun b hb => by
    rw [Array.getElem?_push_lt hb]; exact (Array.getElem?_eq_getElem hb).symm
  refine ⟨by simp [r.len], ?_, ?_, ?_, by have := r.size; simp; omega, fun b hb => ?_, r.same⟩
  · intro i o' b s' h h'
    by_cases hi : i < e.length
    · rw [List.getElem?_append_left hi] at h'
      rw [List.getElem?_append_left (r.len ▸ hi)] at h
      exact (r.ob i o' b s' h h').mono (Env.le_snoc _ _) (keep b (r.lo i b s' h').2)
    · have hi' : i = e.length := by
        have := (List.getElem?_eq_some_iff.1 h').1; simp at this; omega
      subst hi'
      simp at h'
      obtain ⟨rfl, rfl⟩ := h'
      rw [r.len] at h
      simp at h; subst h
      exact ho _ _ (Env.le_snoc _ _) (by simp)
  · intro i j b s1 s2 h h' d d'
    by_cases hi : i < e.length <;> by_cases hj : j < e.length
    · rw [List.getElem?_append_left hi] at h
      rw [List.getElem?_append_left hj] at h'
      rw [List.getElem?_append_left (r.len ▸ hi)] at d
      rw [List.getElem?_append_left (r.len ▸ hj)] at d'
      exact r.inj i j b s1 s2 h h' d d'
    · have hj' : j = e.length := by
        have := (List.getElem?_eq_some_iff.1 h').1; simp at this; omega
      subst hj'; simp at h'
      rw [List.getElem?_append_left hi] at h
      have := (r.lo i b s1 h).2; omega
    · have hi' : i = e.length := by
        have := (List.getElem?_eq_some_iff.1 h).1; simp at this; omega
      subst hi'; simp at h
      rw [List.getElem?_append_left hj] at h'
      have := (r.lo j b s2 h').2; omega
    · have := (List.getElem?_eq_some_iff.1 h').1
      have := (List.getElem?_eq_some_iff.1 h).1
      simp at *; omega
  · intro i b s' h'
    by_cases hi : i < e.length
    · rw [List.getElem?_append_left hi] at h'
      have := r.lo i b s' h'; simp; omega
    · have hi' : i = e.length := by
        have := (List.getElem?_eq_some_iff.1 h').1; simp at this; omega
      subst hi'; simp at h'
      have := r.size; simp; omega
  · show (w.heap.push ob)[b]? = _
    rw [keep b (by have := r.size; omega)]; exact r.kept b hb

/-- One block turned. -/
theorem RH.turn {W0 : World} {e : Env} {H : List AO} {w : World} (r : RH W0 e H w) (i b s : Nat) (he : e[i]? = some (b, s)) (o o0 : AO) (h0 : H[i]? = some o0) (hd : o0 ≠ .dead)
    (w' : World) (hs : w'.heap.size = w.heap.size) (hk : ∀ c, c ≠ b → w'.heap[c]? = w.heap[c]?) (ho : OB e w' b s o) (hso : w'.os = w.os ∧ w'.output = w.output ∧ w'.tape = w.tape := by exact ⟨rfl, rfl, rfl⟩) : RH W0 e (H.set i o) w' := by
  have hlt : i < H.length := (List.getElem?_eq_some_iff.1 h0).1
  refine ⟨by simp [r.len], ?_, ?_, fun j c z h => by rw [hs]; exact r.lo j c z h, by rw [hs]; exact r.size, fun c hc => ?_, hso.1.trans r.same.1, hso.2.1.trans r.same.2.1, hso.2.2.trans r.same.2.2⟩
  · intro j o' c z h h'
    by_cases hj : j = i
    · subst hj
      rw [he] at h'; cases h'
      rw [List.getElem?_set_self hlt] at h; cases h
      exact ho
    · rw [List.getElem?_set_ne (Ne.symm hj)] at h
      by_cases hc : c = b
      · subst hc
        by_cases hdead : o' = .dead
        · subst hdead; trivial
        · exact absurd (r.inj j i c z s h' he (by rw [h]; simpa using hdead) (by rw [h0]; simpa using hd)) hj
      · exact (r.ob j o' c z h h').mono (Env.le_refl _) (hk c hc)
  · intro j k c z z' h h' d d'
    have back : ∀ m : Nat, (H.set i o)[m]? ≠ some AO.dead → H[m]? ≠ some AO.dead := fun m hm => by
      by_cases hmi : m = i
      · subst hmi; rw [h0]; simpa using hd
      · rwa [List.getElem?_set_ne (Ne.symm hmi)] at hm
    exact r.inj j k c z z' h h' (back j d) (back k d')
  · rw [hk c (by have := (r.lo i b s he).1; omega)]; exact r.kept c hc

/-- A block forgotten. -/
theorem RH.forget {W0 : World} {e : Env} {H : List AO} {w : World} (r : RH W0 e H w) (i : Nat) : RH W0 e (H.set i .dead) w := by
  refine ⟨by simp [r.len], ?_, ?_, r.lo, r.size, r.kept, r.same⟩
  · intro j o c z h h'
    by_cases hj : j = i
    · subst hj
      by_cases hlt : j < H.length
      · rw [List.getElem?_set_self hlt] at h; cases h; trivial
      · rw [List.getElem?_eq_none (by simpa using hlt)] at h; cases h
    · rw [List.getElem?_set_ne (Ne.symm hj)] at h
      exact r.ob j o c z h h'
  · intro j k c z z' h h' d d'
    have back : ∀ m : Nat, (H.set i .dead)[m]? ≠ some AO.dead → H[m]? ≠ some AO.dead := fun m hm => by
      by_cases hmi : m = i
      · subst hmi
        by_cases hlt : m < H.length
        · rw [List.getElem?_set_self hlt] at hm; exact absurd rfl hm
        · rw [List.getElem?_eq_none (by simpa using hlt)]; simp
      · rwa [List.getElem?_set_ne (Ne.symm hmi)] at hm
    exact r.inj j k c z z' h h' (back j d) (back k d')

/-! ### a computation that neither reads nor writes -/
def pureRun {α : Type} (P : Program) : Sem α → Option α
  | .pure a => some a
  | .program k => pureRun P (k P)
  | .mark _ k => pureRun P k
  | _ => none
theorem pureRun_sound {α : Type} {P : Program} : ∀ {s : Sem α} {a : α}, pureRun P s = some a → ∀ w, s.run P w = .ok a w
  | .pure x, a, h, w => by simp only [pureRun, Option.some.injEq] at h; subst h; rfl
  | .program k, a, h, w => by simp only [pureRun] at h; simp only [Sem.run]; exact pureRun_sound h w
  | .mark _ k, a, h, w => by simp only [pureRun] at h; simp only [Sem.run]; exact pureRun_sound h w
  | .load .., a, h, w => by simp [pureRun] at h
  | .store .., a, h, w => by simp [pureRun] at h
  | .new .., a, h, w => by simp [pureRun] at h
  | .shape .., a, h, w => by simp [pureRun] at h
  | .freeze .., a, h, w => by simp [pureRun] at h
  | .frozen .., a, h, w => by simp [pureRun] at h
  | .getObj .., a, h, w => by simp [pureRun] at h
  | .setObj .., a, h, w => by simp [pureRun] at h
  | .choose .., a, h, w => by simp [pureRun] at h
  | .sys .., a, h, w => by simp [pureRun] at h
  | .halt .., a, h, w => by simp [pureRun] at h

end Go.Mill

noncomputable section
namespace Go.Mill
open Go
variable [Syms]

theorem nbeq {a b : Nat} (h : a ≠ b) : Nat.beq a b = false := by
  cases hb : Nat.beq a b with
  | false => rfl
  | true => exact absurd (Nat.eq_of_beq_eq_true hb) h
abbrev Tm := List (Nat × AV)
noncomputable def Tm.get (T : Tm) (t : Nat) : Option AV :=
  List.rec (motive := fun _ => Option AV) none (fun p _ ih => Bool.rec (motive := fun _ => Option AV) ih (some p.2) (Nat.beq p.1 t)) T
theorem Tm.get_nil (t : Nat) : Tm.get [] t = none := rfl
theorem Tm.get_cons (d : Nat) (x : AV) (r : Tm) (t : Nat) : Tm.get ((d, x) :: r) t = if Nat.beq d t = true then some x else Tm.get r t := by
  show Bool.rec (motive := fun _ => Option AV) (Tm.get r t) (some x) (Nat.beq d t) = _
  cases Nat.beq d t <;> rfl
noncomputable def Tm.put (n : Nat) (T : Tm) (dst : Option Nat) (x : AV) : Option Tm :=
  match dst with
  | none => some T
  | some d => Bool.rec (motive := fun _ => Option Tm) none (some ((d, x) :: T)) (Nat.ble (d + 1) n)

/-- The frame is as the run sees it. -/
structure RT (n : Nat) (e : Env) (T : Tm) (a : Act) : Prop where
  size : a.tmps.size = n
  defers : a.defers = []
  get : ∀ (t : Nat) (x : AV), T.get t = some x → G e x (a.tmps.getD t undef)

theorem RT.mono {n : Nat} {e e' : Env} {T : Tm} {a : Act} (r : RT n e T a) (h : e.le e') : RT n e' T a := ⟨r.size, r.defers, fun t x hx => (r.get t x hx).mono h⟩
theorem RT.put {n : Nat} {e : Env} {T T' : Tm} {a : Act} (r : RT n e T a) {dst : Option Nat} {x : AV} {v : Value} (h : T.put n dst x = some T') (g : G e x v) : RT n e T' (a.put dst v) := by
  cases dst with
  | none => simp only [Tm.put, Option.some.injEq] at h; subst h; exact r
  | some d =>
    simp only [Tm.put] at h
    cases hb : Nat.ble (d + 1) n with
    | false => rw [hb] at h; cases h
    | true =>
    rw [hb] at h
    have hlt' : d < n := Nat.le_of_ble_eq_true hb
    simp only [Option.some.injEq] at h; subst h
    refine ⟨by simp [Act.put, r.size], by simp [Act.put, r.defers], fun t y hy => ?_⟩
    rw [Tm.get_cons] at hy
    by_cases hd : d = t
    · subst hd
      simp only [Nat.beq_refl, if_true, Option.some.injEq] at hy; subst hy
      have : (a.tmps.setIfInBounds d v).getD d undef = v := by
        simp [Array.getD, r.size, hlt']
      simp only [Act.put, this]; exact g
    · have hb : Nat.beq d t = false := nbeq hd
      simp only [hb, Bool.false_eq_true, if_false] at hy
      have : (a.tmps.setIfInBounds d v).getD t undef = a.tmps.getD t undef := by
        simp [Array.getD_eq_getD_getElem?, Array.getElem?_setIfInBounds_ne hd]
      simp only [Act.put, this]; exact r.get t y hy

noncomputable def aeval (T : Tm) : Operand → Option AV
  | .tmp t => T.get t
  | .const v => some (.v v)
  | .global g => some (.v (.pointer (some ⟨g, 0, none⟩)))
  | .func f => some (.v (.func (.func f) #[] #[]))
theorem aeval_G {n : Nat} {e : Env} {T : Tm} {a : Act} (r : RT n e T a) {x : Operand} {y : AV} (h : aeval T x = some y) : G e y (a.eval x) := by
  cases x with
  | tmp t => exact r.get t y h
  | _ => simp only [aeval, Option.some.injEq] at h; subst h; simp [G, Act.eval]

/-! ### operations whose operands are all known to the sign -/
def notSelect : Op → Bool
  | .select .. => false
  | _ => true
noncomputable def xval (T : Tm) (x : Operand) : Option Value := (aeval T x).bind AV.exact
noncomputable def rho (T : Tm) (x : Operand) : Value := (xval T x).getD undef
noncomputable def exactRun (P : Program) (T : Tm) (o : Oper) : Option Value :=
  if notSelect o.op && o.op.operands.toList.all (fun x => (xval T x).isSome) then
    match pureRun P (execOp (rho T) o) with
    | some (.value v) => some v
    | _ => none
  else none
theorem xval_eval {n : Nat} {e : Env} {T : Tm} {a : Act} (r : RT n e T a) {x : Operand} {y : Value} (h : xval T x = some y) : a.eval x = y := by
  simp only [xval, Option.bind_eq_some_iff] at h
  obtain ⟨z, h1, h2⟩ := h
  exact exact_G h2 (aeval_G r h1)
theorem exactRun_sound {P : Program} {n : Nat} {e : Env} {T : Tm} {a : Act} (r : RT n e T a) {o : Oper} {v : Value} (h : exactRun P T o = some v) (w : World) : (execOp a.eval o).run P w = .ok (.value v) w := by
  simp only [exactRun] at h
  split at h
  case isFalse => cases h
  rename_i hc
  simp only [Bool.and_eq_true, List.all_eq_true] at hc
  have hcong : execOp (rho T) o = execOp a.eval o := by
    refine execOp_congr o (fun cs b hs => ?_) fun x hx => ?_
    · rw [hs] at hc; simp [notSelect] at hc
    · have := hc.2 x (by simpa using hx)
      obtain ⟨y, hy⟩ := Option.isSome_iff_exists.1 this
      rw [xval_eval r hy]; simp [rho, hy]
  split at h
  case h_2 => cases h
  rename_i v' hv
  simp only [Option.some.injEq] at h; subst h
  rw [← hcong]
  exact pureRun_sound hv w

/-! ### operations that look at no memory, over the run's own blocks -/
def Program.sz (P : Program) (t : TypeId) : Option Nat := (P.info? t).map (·.size)
def Program.aggT (P : Program) (t : TypeId) : Option Bool := (P.underlying t).map fun | .struct _ | .array _ _ => true | _ => false
theorem run_sz {P : Program} {t : TypeId} {n : Nat} (h : Program.sz P t = some n) (w : World) : (sizeOf t).run P w = .ok n w := by
  simp only [Program.sz, Option.map_eq_some_iff] at h
  obtain ⟨i, h1, h2⟩ := h
  simp [sizeOf, typeInfo, h1, h2]
theorem run_isAgg {P : Program} {t : TypeId} {b : Bool} (h : Program.aggT P t = some b) (w : World) : (isAgg t).run P w = .ok b w := by
  simp only [Program.aggT, Option.map_eq_some_iff] at h
  obtain ⟨d, h1, h2⟩ := h
  simp only [isAgg, Sem.run_bind, run_underlying h1, Result.andThen]
  cases d <;> simp_all

noncomputable def xint (T : Tm) (x : Operand) : Option Int := match xval T x with | some (.int _ n) => some n | _ => none
noncomputable def xnat (T : Tm) (x : Operand) : Option Nat := match xint T x with | some (.ofNat n) => some n | _ => none
theorem xint_eval {n : Nat} {e : Env} {T : Tm} {a : Act} (r : RT n e T a) {x : Operand} {m : Int} (h : xint T x = some m) : ∃ k, a.eval x = .int k m := by
  simp only [xint] at h
  split at h
  case h_2 => cases h
  rename_i k m' hv
  simp only [Option.some.injEq] at h; subst h
  exact ⟨k, xval_eval r hv⟩
theorem xnat_eval {n : Nat} {e : Env} {T : Tm} {a : Act} (r : RT n e T a) {x : Operand} {m : Nat} (h : xnat T x = some m) : ∃ k, a.eval x = .int k m := by
  simp only [xnat] at h
  split at h
  case h_2 => cases h
  rename_i m' hv
  simp only [Option.some.injEq] at h; subst h
  exact xint_eval r hv

def fieldsOf (P : Program) (t : TypeId) : Option (Array Field) := match P.underlying t with | some (.struct fs) => some fs | _ => none
theorem fieldsOf_eq {P : Program} {t : TypeId} {fs : Array Field} (h : fieldsOf P t = some fs) : P.underlying t = some (.struct fs) := by
  unfold fieldsOf at h; split at h
  · simp only [Option.some.injEq] at h; subst h; assumption
  · cases h
def elemIdx (P : Program) (t : TypeId) : Option (Bool × Nat × TypeId) := match P.underlying t with | some (.array n e) => some (true, n, e) | some (.slice e) => some (false, 0, e) | _ => none

/-- A part of a value written out. -/
def apart (P : Program) (t : TypeId) (cs : List AV) (off : Nat) : Option AV := do
  let n ← Program.sz P t
  if ← Program.aggT P t then (if Nat.ble (off + n) cs.length then some (.agg ((cs.drop off).take n)) else none) else cs[off]?
theorem apart_sound {P : Program} {e : Env} {t : TypeId} {cs : List AV} {l : Array Value} {off : Nat} {x : AV} (h : apart P t cs off = some x) (g : Gs e cs l.toList) :
    ∃ v, G e x v ∧ ∀ w, (part t l off).run P w = .ok v w := by
  simp only [apart, Option.bind_eq_bind, Option.bind_eq_some_iff] at h
  obtain ⟨n, hn, b, hb, h⟩ := h
  cases b with
  | true =>
    simp only [if_true] at h
    split at h
    case isFalse => cases h
    rename_i hle
    simp only [Option.some.injEq] at h; subst h
    have hle' : off + n ≤ cs.length := by simpa [Nat.ble_eq] using hle
    refine ⟨.agg (l.extract off (off + n)), ?_, fun w => ?_⟩
    · simp only [G]
      refine ⟨_, rfl, ?_⟩
      have e1 : (l.extract off (off + n)).toList = (l.toList.drop off).take n := by simp [Array.toList_extract, List.extract_eq_take_drop]
      rw [e1]
      exact (g.drop off).take n
    · simp [part, run_isAgg hb, run_sz hn, Result.andThen]
  | false =>
    simp only [Bool.false_eq_true, if_false] at h
    obtain ⟨y, hy, hg⟩ := g.get h
    refine ⟨y, hg, fun w => ?_⟩
    have : l[off]? = some y := by simpa using hy
    simp [part, run_isAgg hb, this, Result.andThen]

/-- Bounds of a slice expression. -/
noncomputable def xbound (T : Tm) (o : Option Operand) : Option (Option Nat) := match o with | none => some none | some x => (xnat T x).map some

def isNilV : AV → Bool
  | .v (.pointer none) | .v (.slice none _ _) | .v (.map none) | .v .nilFunc => true
  | _ => false
def isSome' : AV → Bool
  | .ptr .. | .sl .. | .slu .. | .mp .. | .fn .. => true
  | _ => false
end Go.Mill
end

noncomputable section
namespace Go.Mill
open Go
variable [Syms]

/-! ### parts laid into a row of cells -/
def splice (cs : List AV) (off : Nat) (xs : List AV) : List AV := cs.take off ++ (xs ++ cs.drop (off + xs.length))
def spliceV (cs : List Value) (off : Nat) (xs : List Value) : List Value := cs.take off ++ (xs ++ cs.drop (off + xs.length))
theorem Gs.splice {e : Env} {cs xs : List AV} {l m : List Value} (off : Nat) (g : Gs e cs l) (h : Gs e xs m) : Gs e (splice cs off xs) (spliceV l off m) := by
  unfold Mill.splice spliceV
  rw [h.length]
  exact (g.take off).append (h.append (g.drop _))
theorem splice_length {cs xs : List AV} {off : Nat} (h : off + xs.length ≤ cs.length) : (splice cs off xs).length = cs.length := by
  simp [splice]; omega
theorem set_foldl (off : Nat) : ∀ (xs : List Value) (k : Nat) (arr : Array Value), off + k + xs.length ≤ arr.size →
    ((xs.zipIdx k).foldl (fun cs p => cs.setIfInBounds (off + p.2) p.1) arr).toList = spliceV arr.toList (off + k) xs := by
  intro xs
  induction xs with
  | nil => intro k arr h; simp [spliceV]
  | cons x xs ih =>
    intro k arr h
    simp only [List.zipIdx_cons, List.foldl_cons]
    rw [ih (k + 1) _ (by simp only [List.length_cons] at h; simp; omega)]
    simp only [List.length_cons] at h
    have hlt : off + k < arr.toList.length := by simp; omega
    obtain ⟨A, B, y, hA, hP⟩ : ∃ A B y, arr.toList = A ++ y :: B ∧ A.length = off + k :=
      ⟨arr.toList.take (off + k), arr.toList.drop (off + k + 1), arr.toList[off + k], by rw [List.getElem_cons_drop, List.take_append_drop], by simp; omega⟩
    have hs : (A ++ y :: B).set (off + k) x = A ++ x :: B := by
      rw [List.set_append_right _ _ (by omega)]; simp [hP]
    simp only [spliceV, Array.toList_setIfInBounds, List.length_cons, hA, hs]
    have t1 : (A ++ x :: B).take (off + (k + 1)) = A ++ [x] := by
      rw [show off + (k + 1) = A.length + 1 by omega, List.take_length_add_append]; simp
    have t2 : (A ++ y :: B).take (off + k) = A := by rw [← hP, List.take_left]
    have t3 : (A ++ x :: B).drop (off + (k + 1) + xs.length) = B.drop xs.length := by
      rw [show off + (k + 1) + xs.length = A.length + (xs.length + 1) by omega, List.drop_length_add_append]; simp
    have t4 : (A ++ y :: B).drop (off + k + (xs.length + 1)) = B.drop xs.length := by
      rw [show off + k + (xs.length + 1) = A.length + (xs.length + 1) by omega, List.drop_length_add_append]; simp
    rw [t1, t2, t3, t4]
    simp
def afill (place : Nat → Option (Nat × Nat)) : List AV → List (Nat × AV) → Option (List AV)
  | cs, [] => some cs
  | cs, (i, x) :: rest => match place i with
    | none => none
    | some (off, size) => if Nat.beq x.cells.length size && Nat.ble (off + size) cs.length then afill place (splice cs off x.cells) rest else none
def Gp (e : Env) : List (Nat × AV) → List (Nat × Value) → Prop
  | [], l => l = []
  | (i, x) :: r, l => ∃ v l', l = (i, v) :: l' ∧ G e x v ∧ Gp e r l'
theorem afill_sound {e : Env} {place : Nat → Option (Nat × Nat)} : ∀ {ps : List (Nat × AV)} {qs : List (Nat × Value)} {cs cs' : List AV} {l : Array Value}, afill place cs ps = some cs' → Gp e ps qs → Gs e cs l.toList →
    ∃ l', Instr.fill place l qs = some l' ∧ Gs e cs' l'.toList
  | [], qs, cs, cs', l, h, gp, g => by
    simp only [afill, Option.some.injEq] at h; subst h
    simp only [Gp] at gp; subst gp
    exact ⟨l, rfl, g⟩
  | (i, x) :: ps, qs, cs, cs', l, h, gp, g => by
    simp only [Gp] at gp
    obtain ⟨v, qs', rfl, gx, gp'⟩ := gp
    simp only [afill] at h
    split at h
    · cases h
    · rename_i off size hp
      split at h
      case isFalse => cases h
      rename_i hc
      simp only [Bool.and_eq_true, Nat.ble_eq] at hc
      have hl1 : x.cells.length = size := Nat.eq_of_beq_eq_true hc.1
      have gc := gx.cells
      have hl2 : v.cells.size = size := by rw [← hl1, ← gc.length]; simp
      have hl3 : l.size = cs.length := by rw [← g.length]; simp
      simp only [Instr.fill, hp]
      rw [if_neg (by simp [hl2]; omega)]
      have hz : (v.cells.zipIdx.foldl (fun cs x => cs.setIfInBounds (off + x.2) x.1) l).toList = spliceV l.toList off v.cells.toList := by
        rw [← Array.foldl_toList, Array.toList_zipIdx]
        exact set_foldl off v.cells.toList 0 l (by simp [hl2]; omega)
      have g2 : Gs e (splice cs off x.cells) (v.cells.zipIdx.foldl (fun cs x => cs.setIfInBounds (off + x.2) x.1) l).toList := by
        rw [hz]; exact g.splice off gc
      exact afill_sound h gp' g2

def aevals (T : Tm) : List (Nat × Operand) → Option (List (Nat × AV))
  | [] => some []
  | (i, x) :: r => do let y ← aeval T x; let l ← aevals T r; pure ((i, y) :: l)
theorem aevals_G {n : Nat} {e : Env} {T : Tm} {a : Act} (r : RT n e T a) : ∀ {ps : List (Nat × Operand)} {l : List (Nat × AV)}, aevals T ps = some l → Gp e l (ps.map fun p => (p.1, a.eval p.2))
  | [], l, h => by simp only [aevals, Option.some.injEq] at h; subst h; simp [Gp]
  | (i, x) :: ps, l, h => by
    simp only [aevals, Option.bind_eq_bind, Option.bind_eq_some_iff] at h
    obtain ⟨y, h1, m, h2, h3⟩ := h
    simp only [Option.pure_def, Option.some.injEq] at h3; subst h3
    simp only [Gp, List.map_cons]
    exact ⟨_, _, rfl, aeval_G r h1, aevals_G r h2⟩
def aevalL (T : Tm) : List Operand → Option (List AV)
  | [] => some []
  | x :: r => do let y ← aeval T x; let l ← aevalL T r; pure (y :: l)
theorem aevalL_G {n : Nat} {e : Env} {T : Tm} {a : Act} (r : RT n e T a) : ∀ {ps : List Operand} {l : List AV}, aevalL T ps = some l → Gs e l (ps.map a.eval)
  | [], l, h => by simp only [aevalL, Option.some.injEq] at h; subst h; simp [Gs]
  | x :: ps, l, h => by
    simp only [aevalL, Option.bind_eq_bind, Option.bind_eq_some_iff] at h
    obtain ⟨y, h1, m, h2, h3⟩ := h
    simp only [Option.pure_def, Option.some.injEq] at h3; subst h3
    simp only [Gs, List.map_cons]
    exact ⟨_, _, rfl, aeval_G r h1, aevalL_G r h2⟩

def zeroCells (P : Program) (t : TypeId) : Option (List Value) := ((P.info? t).bind (·.zero)).map (·.cells.toList)
theorem run_zero {P : Program} {t : TypeId} {l : List Value} (h : zeroCells P t = some l) : ∃ z, z.cells.toList = l ∧ ∀ w, (zeroValue t).run P w = .ok z w := by
  simp only [zeroCells, Option.map_eq_some_iff, Option.bind_eq_some_iff] at h
  obtain ⟨z, ⟨i, h1, h2⟩, h3⟩ := h
  exact ⟨z, h3, fun w => by simp [zeroValue, typeInfo, h1, h2, Result.andThen]⟩

/-- A struct or an array, written out. -/
def abuild (P : Program) (T : Tm) (t : TypeId) (parts : Array (Nat × Operand)) : Option AV := do
  let ps ← aevals T parts.toList
  let z ← zeroCells P t
  match P.underlying t with
  | some (.struct fs) => do
    let places ← pureRun P (fs.mapM fun f => do pure (f.offset, ← sizeOf f.type))
    let cs ← afill (places[·]?) (z.map .v) ps
    pure (.agg cs)
  | some (.array _ el) => do
    let s ← Program.sz P el
    let cs ← afill (fun i => some (i * s, s)) (z.map .v) ps
    pure (.agg cs)
  | _ => none
theorem abuild_sound {P : Program} {n : Nat} {e : Env} {T : Tm} {a : Act} (r : RT n e T a) {t : TypeId} {parts : Array (Nat × Operand)} {x : AV} (h : abuild P T t parts = some x) :
    ∃ v, G e x v ∧ ∀ w, (Instr.build t (parts.map fun (i, x) => (i, a.eval x))).run P w = .ok v w := by
  simp only [abuild, Option.bind_eq_bind, Option.bind_eq_some_iff] at h
  obtain ⟨ps, h1, z, h2, h3⟩ := h
  obtain ⟨zv, hz, hrun⟩ := run_zero h2
  have gp := aevals_G r h1
  have gp' : Gp e ps (parts.map fun (i, x) => (i, a.eval x)).toList := by simpa using gp
  have gz : Gs e (z.map .v) zv.cells.toList := by rw [hz]; exact Gs.exact z
  cases hu : P.underlying t with
  | none => rw [hu] at h3; cases h3
  | some d =>
    rw [hu] at h3
    cases d <;> simp only [Option.bind_eq_bind, Option.bind_eq_some_iff, Option.pure_def, Option.some.injEq, reduceCtorEq] at h3
    case struct fs =>
      obtain ⟨places, hp, cs, hf, rfl⟩ := h3
      obtain ⟨l', hl, gl⟩ := afill_sound hf gp' gz
      refine ⟨.agg l', ⟨l', rfl, gl⟩, fun w => ?_⟩
      have hp' := pureRun_sound hp w
      simp only [Instr.build, Sem.run_bind, hrun, Result.andThen, run_underlying hu, hp', hl]
      simp
    case array m el =>
      obtain ⟨s, hs, cs, hf, rfl⟩ := h3
      obtain ⟨l', hl, gl⟩ := afill_sound hf gp' gz
      refine ⟨.agg l', ⟨l', rfl, gl⟩, fun w => ?_⟩
      simp only [Instr.build, Sem.run_bind, hrun, Result.andThen, run_underlying hu, run_sz hs, hl]
      simp

/-- x[lo:hi:max]. -/
def aslice (P : Program) (T : Tm) (t : TypeId) (x : Operand) (lo hi mx : Option Operand) : Option AV := do
  let val (o : Option Operand) : Option (Option Value) := match o with | none => some none | some y => (xval T y).map some
  let l ← val lo; let h ← val hi; let m ← val mx
  match P.underlying t, ← aeval T x with
  | some (.array n el), .ptr i off => do
    let s ← Program.sz P el
    let (l, h, m) ← pureRun P (Instr.sliceBounds false n n l h m)
    pure (.sl i (if Nat.beq m l then off else off + l * s) (h - l) (m - l))
  | some (.slice el), .sl i off len cap => do
    let s ← Program.sz P el
    let (l, h, m) ← pureRun P (Instr.sliceBounds true len cap l h m)
    pure (.sl i (if Nat.beq m l then off else off + l * s) (h - l) (m - l))
  | some (.slice el), .slu i off len k => do
    let s ← Program.sz P el
    let (l, h, m') ← pureRun P (Instr.sliceBounds true len len l h m)
    if m.isSome then pure (.sl i (if Nat.beq m' l then off else off + l * s) (h - l) (m' - l))
    else if Nat.beq s k && (Nat.beq l 0 || Nat.blt l len) then pure (.slu i (off + l * s) (h - l) k)
    else pure .top
  | _, _ => none
theorem sliceBound_ok {P : Program} {x : Value} {y r : Nat} {c : BoundsCode} {w w' : World} (h : (Instr.sliceBound x y c).run P w = .ok r w') : w' = w ∧ r ≤ y ∧ ∀ (y' : Nat) (c' : BoundsCode), r ≤ y' → (Instr.sliceBound x y' c').run P w = .ok r w := by
  cases x <;> simp only [Instr.sliceBound, asIntOf, Sem.run_bind, Sem.run_pure, Result.andThen] at h ⊢
  case int k i =>
    by_cases hc : 0 ≤ i ∧ i ≤ y
    · rw [if_pos hc] at h
      simp only [Sem.run_pure, Result.ok.injEq] at h
      refine ⟨h.2.symm, by omega, fun y' c' hy => ?_⟩
      rw [if_pos ⟨hc.1, by omega⟩]
      simp [h.1]
    · rw [if_neg hc] at h
      exfalso
      revert h
      simp only [boundsPanic, runtimePanic]
      split <;> simp [Result.andThen, goPanic, choose] <;> (try split) <;> simp
  case pointer p => cases p <;> simp [unsupported, stuck] at h
  all_goals simp [stuck] at h
theorem andThen_ok {α β : Type} {r : Result α} {f : α → World → Result β} {b : β} {w : World} (h : r.andThen f = .ok b w) : ∃ a w', r = .ok a w' ∧ f a w' = .ok b w := by
  cases r with
  | ok a w' => exact ⟨a, w', rfl, h⟩
  | halt x w' => simp [Result.andThen] at h
theorem sliceBounds_more {P : Program} {len c l h m : Nat} {lo hi mx : Option Value} (hb : pureRun P (Instr.sliceBounds true len len lo hi mx) = some (l, h, m)) (hc : len ≤ c) (w : World) :
    (Instr.sliceBounds true len c lo hi mx).run P w = .ok (l, h, if mx.isSome then m else c) w ∧ l ≤ h ∧ h ≤ m ∧ m ≤ len := by
  have hb' := pureRun_sound hb w
  clear hb
  cases mx with
  | none =>
    cases hi with
    | none =>
      cases lo with
      | none =>
        simp [Instr.sliceBounds, Result.andThen] at hb' ⊢
        omega
      | some x =>
        simp only [Instr.sliceBounds, Sem.run_bind, Sem.run_pure, Result.andThen] at hb' ⊢
        obtain ⟨r, w1, h1, h2⟩ := andThen_ok (r := (Instr.sliceBound x len _).run P w) hb'
        obtain ⟨rfl, h3, h4⟩ := sliceBound_ok h1
        simp only [Sem.run_pure, Result.ok.injEq, Prod.mk.injEq, and_true] at h2
        obtain ⟨rfl, rfl, rfl⟩ := h2
        simp [h4 _ _ h3, Result.andThen]
        omega
    | some y =>
      simp only [Instr.sliceBounds, Sem.run_bind, Sem.run_pure, Result.andThen] at hb' ⊢
      obtain ⟨r, w1, h1, h2⟩ := andThen_ok (r := (Instr.sliceBound y len _).run P w) hb'
      obtain ⟨rfl, h3, h4⟩ := sliceBound_ok h1
      rw [h4 c _ (by omega)]
      cases lo with
      | none =>
        simp only [Sem.run_pure, Result.ok.injEq, Prod.mk.injEq, and_true] at h2
        obtain ⟨rfl, rfl, rfl⟩ := h2
        simp [Result.andThen]
        omega
      | some x =>
        obtain ⟨r2, w2, h5, h6⟩ := andThen_ok (r := (Instr.sliceBound x r _).run P w1) (by simpa [Sem.run_bind] using h2)
        obtain ⟨rfl, h7, h8⟩ := sliceBound_ok h5
        simp only [Sem.run_pure, Result.ok.injEq, Prod.mk.injEq, and_true] at h6
        obtain ⟨rfl, rfl, rfl⟩ := h6
        simp [h8 _ _ h7, Result.andThen]
        omega
  | some z =>
    simp only [Instr.sliceBounds, Sem.run_bind] at hb' ⊢
    obtain ⟨r, w1, h1, h2⟩ := andThen_ok (r := (Instr.sliceBound z len _).run P w) hb'
    obtain ⟨rfl, h3, h4⟩ := sliceBound_ok h1
    rw [h4 c _ (by omega)]
    simp only [Result.andThen]
    cases hi with
    | none => simp [stuck, Result.andThen] at h2
    | some y =>
      obtain ⟨r1, w2, h5, h6⟩ := andThen_ok (r := (Instr.sliceBound y r _).run P w1) (by simpa [Sem.run_bind] using h2)
      obtain ⟨rfl, h7, h8⟩ := sliceBound_ok h5
      simp only [Sem.run_bind, h8 _ _ h7, Result.andThen]
      cases lo with
      | none =>
        simp only [Sem.run_pure, Result.ok.injEq, Prod.mk.injEq, and_true] at h6
        obtain ⟨rfl, rfl, rfl⟩ := h6
        simp [Result.andThen]
        omega
      | some x =>
        obtain ⟨r2, w3, h9, h10⟩ := andThen_ok (r := (Instr.sliceBound x r1 _).run P w2) (by simpa [Sem.run_bind] using h6)
        obtain ⟨rfl, h11, h12⟩ := sliceBound_ok h9
        simp only [Sem.run_pure, Result.ok.injEq, Prod.mk.injEq, and_true] at h10
        obtain ⟨rfl, rfl, rfl⟩ := h10
        simp [h12 _ _ h11, Result.andThen]
        omega
theorem xvalO {n : Nat} {e : Env} {T : Tm} {a : Act} (r : RT n e T a) {o : Option Operand} {y : Option Value}
    (h : (match o with | none => some none | some y => (xval T y).map some) = some y) : o.map a.eval = y := by
  cases o with
  | none => simp only [Option.some.injEq] at h; subst h; rfl
  | some x =>
    simp only [Option.map_eq_some_iff] at h
    obtain ⟨v, h1, rfl⟩ := h
    simp [xval_eval r h1]
theorem add_if (b off l s m : Nat) (h : Nat.beq m l = false ∨ Nat.beq m l = true) :
    (if m = l then (⟨b, off, none⟩ : Addr) else (⟨b, off, none⟩ : Addr).add (l * s)) = ⟨b, if Nat.beq m l then off else off + l * s, none⟩ := by
  by_cases hm : m = l
  · subst hm; simp [Nat.beq_refl]
  · simp [hm, nbeq hm, Addr.add_lit]
theorem aslice_sound {P : Program} {n : Nat} {e : Env} {T : Tm} {a : Act} (r : RT n e T a) {t : TypeId} {x : Operand} {lo hi mx : Option Operand} {y : AV} (h : aslice P T t x lo hi mx = some y) :
    ∃ v, G e y v ∧ ∀ w, (Instr.sliceAt t (a.eval x) (lo.map a.eval) (hi.map a.eval) (mx.map a.eval)).run P w = .ok v w := by
  simp only [aslice, Option.bind_eq_bind, Option.bind_eq_some_iff] at h
  obtain ⟨l, hl, hh, hhh, m, hm, u, hu, h⟩ := h
  have e1 := xvalO r hl
  have e2 := xvalO r hhh
  have e3 := xvalO r hm
  have gx := aeval_G r hu
  rw [e1, e2, e3]
  split at h
  · rename_i k el i off hut
    simp only [Option.bind_eq_bind, Option.bind_eq_some_iff, Option.pure_def, Option.some.injEq] at h
    obtain ⟨s, hs, ⟨l', h', m'⟩, hb, rfl⟩ := h
    simp only [G] at gx
    obtain ⟨b, sz, he, hv⟩ := gx
    have hbr := pureRun_sound hb
    refine ⟨_, ⟨b, sz, he, rfl⟩, fun w => ?_⟩
    simp only [Instr.sliceAt, Sem.run_bind, run_underlying hut, Result.andThen, hv, Instr.sureAddr, Sem.run_pure, hbr, run_sz hs]
    rw [add_if _ _ _ _ _ (by cases Nat.beq m' l' <;> simp)]
  · rename_i el i off len cap hut
    simp only [Option.bind_eq_bind, Option.bind_eq_some_iff, Option.pure_def, Option.some.injEq] at h
    obtain ⟨s, hs, ⟨l', h', m'⟩, hb, rfl⟩ := h
    simp only [G] at gx
    obtain ⟨b, sz, he, hv⟩ := gx
    have hbr := pureRun_sound hb
    refine ⟨_, ⟨b, sz, he, rfl⟩, fun w => ?_⟩
    simp only [Instr.sliceAt, Instr.slice, Sem.run_bind, run_underlying hut, Result.andThen, hv, Sem.run_pure, hbr, run_sz hs]
    have := add_if b off l' s m' (by cases Nat.beq m' l' <;> simp)
    by_cases hml : m' = l'
    · simp [hml, Nat.beq_refl]
    · simp [hml, nbeq hml, Addr.add_lit]
  · rename_i el i off len k hut
    simp only [Option.bind_eq_bind, Option.bind_eq_some_iff] at h
    obtain ⟨s, hs, ⟨l', h', m'⟩, hb, h⟩ := h
    simp only [G] at gx
    obtain ⟨b, sz, c, he, hlc, hoff, hv⟩ := gx
    have hbr := fun w => sliceBounds_more hb hlc w
    have hrun : ∀ w, (Instr.sliceAt t (a.eval x) l hh m).run P w = .ok (.slice (some ⟨b, if Nat.beq (if m.isSome then m' else c) l' then off else off + l' * s, none⟩) (h' - l') ((if m.isSome then m' else c) - l')) w := fun w => by
      simp only [Instr.sliceAt, Instr.slice, Sem.run_bind, run_underlying hut, Result.andThen, hv, Sem.run_pure, (hbr w).1, run_sz hs]
      by_cases hml : (if m.isSome then m' else c) = l'
      · simp [hml, Nat.beq_refl]
      · simp [hml, nbeq hml, Addr.add_lit]
    obtain ⟨_, q1, q2, q3⟩ := hbr default
    by_cases hms : m.isSome = true
    · simp only [hms, if_true, Option.pure_def, Option.some.injEq] at h hrun
      subst h
      exact ⟨_, ⟨b, sz, he, rfl⟩, hrun⟩
    · simp only [hms, Bool.false_eq_true, if_false] at h hrun
      split at h
      · rename_i hc
        simp only [Option.pure_def, Option.some.injEq] at h
        subst h
        simp only [Bool.and_eq_true, Bool.or_eq_true, Nat.blt_eq] at hc
        obtain ⟨hsk, hc⟩ := hc
        have hsk := Nat.eq_of_beq_eq_true hsk
        subst hsk
        have hcl : l' ≤ c := by omega
        refine ⟨_, ?_, hrun⟩
        simp only [G]
        refine ⟨b, sz, c - l', he, by omega, ?_, ?_⟩
        · rw [← hoff, Nat.sub_mul]
          have : l' * s ≤ c * s := Nat.mul_le_mul_right _ hcl
          omega
        · rcases hc with hc | hc
          · have := Nat.eq_of_beq_eq_true hc
            subst this
            simp
          · rw [if_neg (by rw [nbeq (by omega)]; simp)]
      · simp only [Option.pure_def, Option.some.injEq] at h
        subst h
        exact ⟨_, by simp [G, Value.cells], hrun⟩
  · cases h
end Go.Mill
end

noncomputable section
namespace Go.Mill
open Go
variable [Syms]

def anil (P : Program) (T : Tm) (op : BinOp) (t : TypeId) (x y : Operand) : Option AV :=
  match op, P.underlying t, aeval T x, aeval T y with
  | .eql, some (.pointer _), some (.ptr ..), some (.v (.pointer none)) | .eql, some (.pointer _), some (.v (.pointer none)), some (.ptr ..) => some (.v (.bool false))
  | .neq, some (.pointer _), some (.ptr ..), some (.v (.pointer none)) | .neq, some (.pointer _), some (.v (.pointer none)), some (.ptr ..) => some (.v (.bool true))
  | .eql, some (.map ..), some (.mp ..), some (.v (.map none)) | .eql, some (.map ..), some (.v (.map none)), some (.mp ..) => some (.v (.bool false))
  | .neq, some (.map ..), some (.mp ..), some (.v (.map none)) | .neq, some (.map ..), some (.v (.map none)), some (.mp ..) => some (.v (.bool true))
  | .eql, some (.slice _), some (.sl ..), some (.v (.slice none 0 0)) | .eql, some (.slice _), some (.v (.slice none 0 0)), some (.sl ..) => some (.v (.bool false))
  | .neq, some (.slice _), some (.sl ..), some (.v (.slice none 0 0)) | .neq, some (.slice _), some (.v (.slice none 0 0)), some (.sl ..) => some (.v (.bool true))
  | .eql, some (.slice _), some (.slu ..), some (.v (.slice none 0 0)) | .eql, some (.slice _), some (.v (.slice none 0 0)), some (.slu ..) => some (.v (.bool false))
  | .neq, some (.slice _), some (.slu ..), some (.v (.slice none 0 0)) | .neq, some (.slice _), some (.v (.slice none 0 0)), some (.slu ..) => some (.v (.bool true))
  | _, _, _, _ => none
def nilOf : Value → Bool
  | .pointer none | .map none | .slice none 0 0 => true
  | _ => false
theorem equalIn_nil {P : Program} {t : TypeId} {x y : Value} (d : Nat) (w : World)
    (h : (∃ el a, P.underlying t = some (.pointer el) ∧ ((x = .pointer (some a) ∧ y = .pointer none) ∨ (y = .pointer (some a) ∧ x = .pointer none))) ∨
         (∃ k el a, P.underlying t = some (.map k el) ∧ ((x = .map (some a) ∧ y = .map none) ∨ (y = .map (some a) ∧ x = .map none))) ∨
         (∃ el a n m, P.underlying t = some (.slice el) ∧ ((x = .slice (some a) n m ∧ y = .slice none 0 0) ∨ (y = .slice (some a) n m ∧ x = .slice none 0 0)))) :
    (Op.equalIn (d + 1) t x y).run P w = .ok false w := by
  rcases h with ⟨el, a, hu, ⟨rfl, rfl⟩ | ⟨rfl, rfl⟩⟩ | ⟨k, el, a, hu, ⟨rfl, rfl⟩ | ⟨rfl, rfl⟩⟩ | ⟨el, a, n, m, hu, ⟨rfl, rfl⟩ | ⟨rfl, rfl⟩⟩ <;>
    simp only [Op.equalIn, Sem.run_bind, run_underlying hu, Result.andThen] <;> simp
theorem eq_nil {P : Program} {t : TypeId} {x y : Value} {xo yo : Operand} (w : World)
    (h : (∃ el a, P.underlying t = some (.pointer el) ∧ ((x = .pointer (some a) ∧ y = .pointer none) ∨ (y = .pointer (some a) ∧ x = .pointer none))) ∨
         (∃ k el a, P.underlying t = some (.map k el) ∧ ((x = .map (some a) ∧ y = .map none) ∨ (y = .map (some a) ∧ x = .map none))) ∨
         (∃ el a n m, P.underlying t = some (.slice el) ∧ ((x = .slice (some a) n m ∧ y = .slice none 0 0) ∨ (y = .slice (some a) n m ∧ x = .slice none 0 0)))) :
    ((do eqGuard .eql t xo yo x y; binOp .eql t x y) : Sem Value).run P w = .ok (.bool false) w ∧ ((do eqGuard .neq t xo yo x y; binOp .neq t x y) : Sem Value).run P w = .ok (.bool true) w := by
  have hq : (Op.equal t x y).run P w = .ok false w := equalIn_nil 9999 w h
  have b1 : binOp .eql t x y = (do pure (.bool (← Op.equal t x y))) := by
    rcases h with ⟨el, a, hu, ⟨rfl, rfl⟩ | ⟨rfl, rfl⟩⟩ | ⟨k, el, a, hu, ⟨rfl, rfl⟩ | ⟨rfl, rfl⟩⟩ | ⟨el, a, n, m, hu, ⟨rfl, rfl⟩ | ⟨rfl, rfl⟩⟩ <;> rfl
  have b2 : binOp .neq t x y = (do pure (.bool (!(← Op.equal t x y)))) := by
    rcases h with ⟨el, a, hu, ⟨rfl, rfl⟩ | ⟨rfl, rfl⟩⟩ | ⟨k, el, a, hu, ⟨rfl, rfl⟩ | ⟨rfl, rfl⟩⟩ | ⟨el, a, n, m, hu, ⟨rfl, rfl⟩ | ⟨rfl, rfl⟩⟩ <;> rfl
  have g1 : ∀ op, eqGuard op t xo yo x y = pure () := by
    intro op
    rcases h with ⟨el, a, hu, ⟨rfl, rfl⟩ | ⟨rfl, rfl⟩⟩ | ⟨k, el, a, hu, ⟨rfl, rfl⟩ | ⟨rfl, rfl⟩⟩ | ⟨el, a, n, m, hu, ⟨rfl, rfl⟩ | ⟨rfl, rfl⟩⟩ <;> cases op <;> rfl
  rw [g1, g1, b1, b2]
  simp only [Sem.run_bind, Sem.run_pure, Result.andThen, hq]
  simp
theorem anil_sound {P : Program} {n : Nat} {e : Env} {T : Tm} {a : Act} (r : RT n e T a) {op : BinOp} {t : TypeId} {x y : Operand} {z : AV} (h : anil P T op t x y = some z) :
    ∃ v, G e z v ∧ ∀ w, ((do eqGuard op t x y (a.eval x) (a.eval y); binOp op t (a.eval x) (a.eval y)) : Sem Value).run P w = .ok v w := by
  unfold anil at h
  split at h
  case h_17 => cases h
  all_goals
    rename_i hu hx hy
    have gx := aeval_G r hx
    have gy := aeval_G r hy
    simp only [G] at gx gy
    simp only [Option.some.injEq] at h
    subst h
    refine ⟨_, rfl, fun w => ?_⟩
    first
      | (obtain ⟨b, s, he, gx⟩ := gx; rw [gx, gy]; first | exact (eq_nil w (.inl ⟨_, _, hu, .inl ⟨rfl, rfl⟩⟩)).1 | exact (eq_nil w (.inl ⟨_, _, hu, .inl ⟨rfl, rfl⟩⟩)).2 | exact (eq_nil w (.inr (.inl ⟨_, _, _, hu, .inl ⟨rfl, rfl⟩⟩))).1 | exact (eq_nil w (.inr (.inl ⟨_, _, _, hu, .inl ⟨rfl, rfl⟩⟩))).2 | exact (eq_nil w (.inr (.inr ⟨_, _, _, _, hu, .inl ⟨rfl, rfl⟩⟩))).1 | exact (eq_nil w (.inr (.inr ⟨_, _, _, _, hu, .inl ⟨rfl, rfl⟩⟩))).2)
      | (obtain ⟨b, s, he, gy⟩ := gy; rw [gx, gy]; first | exact (eq_nil w (.inl ⟨_, _, hu, .inr ⟨rfl, rfl⟩⟩)).1 | exact (eq_nil w (.inl ⟨_, _, hu, .inr ⟨rfl, rfl⟩⟩)).2 | exact (eq_nil w (.inr (.inl ⟨_, _, _, hu, .inr ⟨rfl, rfl⟩⟩))).1 | exact (eq_nil w (.inr (.inl ⟨_, _, _, hu, .inr ⟨rfl, rfl⟩⟩))).2 | exact (eq_nil w (.inr (.inr ⟨_, _, _, _, hu, .inr ⟨rfl, rfl⟩⟩))).1 | exact (eq_nil w (.inr (.inr ⟨_, _, _, _, hu, .inr ⟨rfl, rfl⟩⟩))).2)
      | (obtain ⟨b, s, c, he, _, _, gx⟩ := gx; rw [gx, gy]; first | exact (eq_nil w (.inr (.inr ⟨_, _, _, _, hu, .inl ⟨rfl, rfl⟩⟩))).1 | exact (eq_nil w (.inr (.inr ⟨_, _, _, _, hu, .inl ⟨rfl, rfl⟩⟩))).2)
      | (obtain ⟨b, s, c, he, _, _, gy⟩ := gy; rw [gx, gy]; first | exact (eq_nil w (.inr (.inr ⟨_, _, _, _, hu, .inr ⟨rfl, rfl⟩⟩))).1 | exact (eq_nil w (.inr (.inr ⟨_, _, _, _, hu, .inr ⟨rfl, rfl⟩⟩))).2)

/-- Operations whose answer may be reckoned from values alone. -/
def exactKind : Op → Bool
  | .load .. | .store .. | .alloc .. | .box .. | .buildSlice .. | .makeSlice .. | .makeMap .. | .mapUpdate .. | .insert .. | .range .. | .next .. | .move .. | .assign .. => false
  | _ => true
/-- Operations that look at no memory: what they yield. -/
def afastOld (P : Program) (T : Tm) (o : Oper) : Option AV :=
  match o.op with
  | .move x => aeval T x
  | .assign x => aeval T x
  | .pick c a b => match xval T c with
    | some (.bool t) => aeval T (if t then a else b)
    | _ => none
  | .nilCheck x => match aeval T x with
    | some (.ptr i f) => some (.ptr i f)
    | some (.fn (.func f) a b) => some (.fn (.func f) a b)
    | _ => none
  | .fieldAddr s x f => match aeval T x, fieldsOf P s with
    | some (.ptr i off), some fs => match fs[f]? with
      | some fd => match Program.sz P fd.type with
        | some (_ + 1) => some (.ptr i (off + fd.offset))
        | _ => none
      | none => none
    | _, _ => none
  | .field t x f => match aeval T x, fieldsOf P t with
    | some (.agg cs), some fs => match fs[f]? with
      | some fd => apart P fd.type cs fd.offset
      | none => none
    | _, _ => none
  | .indexAddr t x ix => match P.underlying t, aeval T x, xnat T ix with
    | some (.array n e), some (.ptr i off), some k => if Nat.blt k n then (Program.sz P e).map fun s => .ptr i (off + k * s) else none
    | some (.slice e), some (.sl i off len _), some k => if Nat.blt k len then (Program.sz P e).map fun s => .ptr i (off + k * s) else none
    | some (.slice e), some (.slu i off len _), some k => if Nat.blt k len then (Program.sz P e).map fun s => .ptr i (off + k * s) else none
    | _, _, _ => none
  | .index t x ix => match P.underlying t, aeval T x, xnat T ix with
    | some (.array n e), some (.agg cs), some k => if Nat.blt k n then (Program.sz P e).bind fun s => apart P e cs (k * s) else none
    | _, _, _ => none
  | .extract x ix => match aeval T x with
    | some (.tup vs) => vs[ix]?
    | _ => none
  | .slice t x lo hi mx => aslice P T t x lo hi mx
  | .sliceToArrayPointer t x => match P.underlying t, aeval T x with
    | some (.array n _), some (.sl i off len _) => if Nat.ble n len then some (.ptr i off) else none
    | some (.array n _), some (.slu i off len _) => if Nat.ble n len then some (.ptr i off) else none
    | _, _ => none
  | .makeFunc f first cap => match aevalL T first.toList, aevalL T cap.toList with
    | some l, some m => some (.fn f l m)
    | _, _ => none
  | .makeInterface t x => match P.underlying t with
    | some (.interface _) => none
    | some _ => (aeval T x).map (.ifc t)
    | none => none
  | .build t parts => abuild P T t parts
  | .binOp op t x y _ => anil P T op t x y
  | .call { callee := .builtin .len, args := args, argTypes := ts } => match args.toList, ts.toList with
    | [x], [t] => match P.underlying t, aeval T x with
      | some (.slice _), some (.sl _ _ len _) => some (.v (.int .i64 len))
      | some (.slice _), some (.slu _ _ len _) => some (.v (.int .i64 len))
      | some (.array n _), some _ => some (.v (.int .i64 n))
      | _, _ => none
    | _, _ => none
  | .call { callee := .builtin .cap, args := args, argTypes := ts } => match args.toList, ts.toList with
    | [x], [t] => match P.underlying t, aeval T x with
      | some (.slice _), some (.sl _ _ _ c) => some (.v (.int .i64 c))
      | _, _ => none
    | _, _ => none
  | _ => none

def fPick (T : Tm) (c x y : Operand) : Option AV := match xval T c with
  | some (.bool t) => aeval T (if t then x else y)
  | _ => none
def fNil (T : Tm) (x : Operand) : Option AV := match aeval T x with
  | some (.ptr i f) => some (.ptr i f)
  | some (.fn (.func f) a b) => some (.fn (.func f) a b)
  | _ => none
def fFieldAddr1 (P : Program) (i off : Nat) (fd : Field) : Option AV := match Program.sz P fd.type with
  | some (_ + 1) => some (.ptr i (off + fd.offset))
  | _ => none
def fFieldAddr (P : Program) (T : Tm) (s : TypeId) (x : Operand) (f : Nat) : Option AV := match aeval T x, fieldsOf P s with
  | some (.ptr i off), some fs => match fs[f]? with
    | some fd => fFieldAddr1 P i off fd
    | none => none
  | _, _ => none
def fField (P : Program) (T : Tm) (t : TypeId) (x : Operand) (f : Nat) : Option AV := match aeval T x, fieldsOf P t with
  | some (.agg cs), some fs => match fs[f]? with
    | some fd => apart P fd.type cs fd.offset
    | none => none
  | _, _ => none
def fIndexAddr1 (P : Program) (e : TypeId) (i off len k : Nat) : Option AV := if Nat.blt k len then (Program.sz P e).map fun s => .ptr i (off + k * s) else none
def fIndexAddr (P : Program) (T : Tm) (t : TypeId) (x ix : Operand) : Option AV := match P.underlying t, aeval T x, xnat T ix with
  | some (.array n e), some (.ptr i off), some k => fIndexAddr1 P e i off n k
  | some (.slice e), some (.sl i off len _), some k => fIndexAddr1 P e i off len k
  | some (.slice e), some (.slu i off len _), some k => fIndexAddr1 P e i off len k
  | _, _, _ => none
def fIndex (P : Program) (T : Tm) (t : TypeId) (x ix : Operand) : Option AV := match P.underlying t, aeval T x, xnat T ix with
  | some (.array n e), some (.agg cs), some k => if Nat.blt k n then (Program.sz P e).bind fun s => apart P e cs (k * s) else none
  | _, _, _ => none
def fExtract (T : Tm) (x : Operand) (ix : Nat) : Option AV := match aeval T x with
  | some (.tup vs) => vs[ix]?
  | _ => none
def fToArray (P : Program) (T : Tm) (t : TypeId) (x : Operand) : Option AV := match P.underlying t, aeval T x with
  | some (.array n _), some (.sl i off len _) => if Nat.ble n len then some (.ptr i off) else none
  | some (.array n _), some (.slu i off len _) => if Nat.ble n len then some (.ptr i off) else none
  | _, _ => none
def fFunc (T : Tm) (f : Fn) (first cap : Array Operand) : Option AV := match aevalL T first.toList, aevalL T cap.toList with
  | some l, some m => some (.fn f l m)
  | _, _ => none
def fIface (P : Program) (T : Tm) (t : TypeId) (x : Operand) : Option AV := match P.underlying t with
  | some (.interface _) => none
  | some _ => (aeval T x).map (.ifc t)
  | none => none
def fLen (P : Program) (T : Tm) (args : Array Operand) (ts : Array TypeId) : Option AV := match args.toList, ts.toList with
  | [x], [t] => match P.underlying t, aeval T x with
    | some (.slice _), some (.sl _ _ len _) => some (.v (.int .i64 len))
    | some (.slice _), some (.slu _ _ len _) => some (.v (.int .i64 len))
    | some (.array n _), some _ => some (.v (.int .i64 n))
    | _, _ => none
  | _, _ => none
def fCap (P : Program) (T : Tm) (args : Array Operand) (ts : Array TypeId) : Option AV := match args.toList, ts.toList with
  | [x], [t] => match P.underlying t, aeval T x with
    | some (.slice _), some (.sl _ _ _ c) => some (.v (.int .i64 c))
    | _, _ => none
  | _, _ => none
def fBuiltin (P : Program) (T : Tm) (args : Array Operand) (ts : Array TypeId) (b : Builtin) : Option AV := match b with
  | .len => fLen P T args ts
  | .cap => fCap P T args ts
  | _ => none
def fCall (P : Program) (T : Tm) (c : Call) : Option AV := match c.callee with
  | .builtin b => fBuiltin P T c.args c.argTypes b
  | _ => none
def afast (P : Program) (T : Tm) (o : Oper) : Option AV := match o.op with
  | .move x => aeval T x
  | .assign x => aeval T x
  | .pick c a b => fPick T c a b
  | .nilCheck x => fNil T x
  | .fieldAddr s x f => fFieldAddr P T s x f
  | .field t x f => fField P T t x f
  | .indexAddr t x ix => fIndexAddr P T t x ix
  | .index t x ix => fIndex P T t x ix
  | .extract x ix => fExtract T x ix
  | .slice t x lo hi mx => aslice P T t x lo hi mx
  | .sliceToArrayPointer t x => fToArray P T t x
  | .makeFunc f first cap => fFunc T f first cap
  | .makeInterface t x => fIface P T t x
  | .build t parts => abuild P T t parts
  | .binOp op t x y _ => anil P T op t x y
  | .call c => fCall P T c
  | _ => none
theorem afast_eq (P : Program) (T : Tm) (o : Oper) : afast P T o = afastOld P T o := by
  obtain ⟨dst, op, type, pos, after, guard⟩ := o
  cases op <;> try rfl
  rename_i c
  obtain ⟨callee, args, ts⟩ := c
  cases callee <;> try rfl
  rename_i b
  cases b <;> rfl
def apure (P : Program) (T : Tm) (o : Oper) : Option AV :=
  match afast P T o with
  | some z => some z
  | none => match exactKind o.op with
    | true => (exactRun P T o).map .v
    | false => none

theorem toL {α : Type} {a : Array α} {l : List α} (h : a.toList = l) : a = l.toArray := by rw [← h]

theorem afast_sound {P : Program} {n : Nat} {e : Env} {T : Tm} {a : Act} (r : RT n e T a) {o : Oper} {z : AV} (h : afast P T o = some z) :
    ∃ v, G e z v ∧ ∀ w, (execOp a.eval o).run P w = .ok (.value v) w := by
  rw [afast_eq] at h
  unfold afastOld at h
  obtain ⟨dst, op, type, pos, after, guard⟩ := o
  simp only at h
  split at h
  -- move
  · exact ⟨_, aeval_G r h, fun w => by simp [execOp]⟩
  · exact ⟨_, aeval_G r h, fun w => by simp [execOp]⟩
  -- pick
  · rename_i c x y
    split at h
    case h_2 => cases h
    rename_i t hc
    have hc' := xval_eval r hc
    refine ⟨_, aeval_G r h, fun w => ?_⟩
    cases t <;> simp [execOp, hc', asBool, Result.andThen]
  -- nilCheck
  · rename_i x
    split at h
    · rename_i i f hx
      simp only [Option.some.injEq] at h; subst h
      have g := aeval_G r hx
      refine ⟨_, g, fun w => ?_⟩
      simp only [G] at g
      obtain ⟨b, s, he, hv⟩ := g
      simp [execOp, hv]
    · rename_i f l m hx
      simp only [Option.some.injEq] at h; subst h
      have g := aeval_G r hx
      refine ⟨_, g, fun w => ?_⟩
      simp only [G] at g
      obtain ⟨l', m', hv, _⟩ := g
      simp [execOp, hv]
    · cases h
  -- fieldAddr
  · rename_i s x f
    split at h
    case h_2 => cases h
    rename_i i off fs hx hfs
    split at h
    case h_2 => cases h
    rename_i fd hfd
    split at h
    case h_2 => cases h
    rename_i m hsz
    simp only [Option.some.injEq] at h; subst h
    have g := aeval_G r hx
    simp only [G] at g
    obtain ⟨b, z, he, hv⟩ := g
    refine ⟨_, ⟨b, z, he, rfl⟩, fun w => ?_⟩
    simp [execOp, Instr.fieldAt, run_underlying (fieldsOf_eq hfs), hfd, hv, Instr.sureAddr, fieldPlace, run_sz hsz, Result.andThen, Addr.add_lit]
  -- field
  · rename_i t x f
    split at h
    case h_2 => cases h
    rename_i cs fs hx hfs
    split at h
    case h_2 => cases h
    rename_i fd hfd
    have g := aeval_G r hx
    simp only [G] at g
    obtain ⟨l, hv, gs⟩ := g
    obtain ⟨v, gv, hrun⟩ := apart_sound h gs
    refine ⟨v, gv, fun w => ?_⟩
    simp [execOp, Instr.field, run_underlying (fieldsOf_eq hfs), hfd, hv, asAgg, hrun, Result.andThen]
  -- indexAddr
  · rename_i t x ix
    split at h
    · rename_i m el i off k hu hx hk
      split at h
      case isFalse => cases h
      rename_i hlt
      simp only [Option.map_eq_some_iff] at h
      obtain ⟨s, hs, rfl⟩ := h
      have g := aeval_G r hx
      simp only [G] at g
      obtain ⟨b, z, he, hv⟩ := g
      obtain ⟨kk, hk'⟩ := xnat_eval r hk
      have hlt' : k < m := by simpa [Nat.blt_eq] using hlt
      refine ⟨_, ⟨b, z, he, rfl⟩, fun w => ?_⟩
      have : (0 : Int) ≤ k ∧ (k : Int) < m := ⟨by omega, by omega⟩
      simp [execOp, Instr.indexAt, run_underlying hu, hv, hk', asIntOf, Instr.sureAddr, run_sz hs, Result.andThen, Addr.add_lit, this, hlt']
    · rename_i el i off len cap k hu hx hk
      split at h
      case isFalse => cases h
      rename_i hlt
      simp only [Option.map_eq_some_iff] at h
      obtain ⟨s, hs, rfl⟩ := h
      have g := aeval_G r hx
      simp only [G] at g
      obtain ⟨b, z, he, hv⟩ := g
      obtain ⟨kk, hk'⟩ := xnat_eval r hk
      have hlt' : k < len := by simpa [Nat.blt_eq] using hlt
      refine ⟨_, ⟨b, z, he, rfl⟩, fun w => ?_⟩
      simp [execOp, Instr.indexAt, run_underlying hu, hv, hk', asIntOf, Instr.sureAddr, run_sz hs, Result.andThen, Addr.add_lit, hlt']
    · rename_i el i off len ks k hu hx hk
      split at h
      case isFalse => cases h
      rename_i hlt
      simp only [Option.map_eq_some_iff] at h
      obtain ⟨s, hs, rfl⟩ := h
      have g := aeval_G r hx
      simp only [G] at g
      obtain ⟨b, z, c, he, _, _, hv⟩ := g
      obtain ⟨kk, hk'⟩ := xnat_eval r hk
      have hlt' : k < len := by simpa [Nat.blt_eq] using hlt
      refine ⟨_, ⟨b, z, he, rfl⟩, fun w => ?_⟩
      simp [execOp, Instr.indexAt, run_underlying hu, hv, hk', asIntOf, Instr.sureAddr, run_sz hs, Result.andThen, Addr.add_lit, hlt']
    · cases h
  -- index
  · rename_i t x ix
    split at h
    case h_2 => cases h
    rename_i m el cs k hu hx hk
    split at h
    case isFalse => cases h
    rename_i hlt
    simp only [Option.bind_eq_some_iff] at h
    obtain ⟨s, hs, h⟩ := h
    have g := aeval_G r hx
    simp only [G] at g
    obtain ⟨l, hv, gs⟩ := g
    obtain ⟨kk, hk'⟩ := xnat_eval r hk
    have hlt' : k < m := by simpa [Nat.blt_eq] using hlt
    obtain ⟨v, gv, hrun⟩ := apart_sound h gs
    refine ⟨v, gv, fun w => ?_⟩
    simp [execOp, Instr.index, run_underlying hu, hv, hk', asIntOf, run_sz hs, Result.andThen, hrun, hlt']
  -- extract
  · rename_i x ix
    split at h
    case h_2 => cases h
    rename_i vs hx
    have g := aeval_G r hx
    simp only [G] at g
    obtain ⟨l, hv, gs⟩ := g
    obtain ⟨y, hy, gy⟩ := gs.get h
    refine ⟨y, gy, fun w => ?_⟩
    have : l[ix]? = some y := by simpa using hy
    simp [execOp, Instr.extract, hv, this, Result.andThen]
  -- slice
  · obtain ⟨v, gv, hrun⟩ := aslice_sound r h
    refine ⟨v, gv, fun w => ?_⟩
    simp [execOp, hrun, Result.andThen]
  -- sliceToArrayPointer
  · rename_i t x
    split at h
    · rename_i m el i off len cap hu hx
      split at h
      case isFalse => cases h
      rename_i hle
      simp only [Option.some.injEq] at h; subst h
      have g := aeval_G r hx
      simp only [G] at g
      obtain ⟨b, z, he, hv⟩ := g
      have hle' : m ≤ len := by simpa [Nat.ble_eq] using hle
      refine ⟨_, ⟨b, z, he, rfl⟩, fun w => ?_⟩
      have : ¬ len < m := by omega
      simp [execOp, Instr.arrayAt, run_underlying hu, hv, Result.andThen, this]
    · rename_i m el i off len ks hu hx
      split at h
      case isFalse => cases h
      rename_i hle
      simp only [Option.some.injEq] at h; subst h
      have g := aeval_G r hx
      simp only [G] at g
      obtain ⟨b, z, c, he, _, _, hv⟩ := g
      have hle' : m ≤ len := by simpa [Nat.ble_eq] using hle
      refine ⟨_, ⟨b, z, he, rfl⟩, fun w => ?_⟩
      have : ¬ len < m := by omega
      simp [execOp, Instr.arrayAt, run_underlying hu, hv, Result.andThen, this]
    · cases h
  -- makeFunc
  · rename_i f first cap
    split at h
    case h_2 => cases h
    rename_i l m hl hm
    simp only [Option.some.injEq] at h; subst h
    have g1 := aevalL_G r hl
    have g2 := aevalL_G r hm
    refine ⟨.func f (first.map a.eval) (cap.map a.eval), ?_, fun w => by simp [execOp, Instr.makeFunc, Result.andThen]⟩
    simp only [G]
    exact ⟨_, _, rfl, by simpa using g1, by simpa using g2⟩
  -- makeInterface
  · rename_i t x
    split at h
    · cases h
    · rename_i d hd hu
      simp only [Option.map_eq_some_iff] at h
      obtain ⟨y, hy, rfl⟩ := h
      refine ⟨.iface t (a.eval x), ⟨_, rfl, aeval_G r hy⟩, fun w => ?_⟩
      cases d <;> simp [execOp, Instr.makeInterface, run_underlying hu, Result.andThen] at hd ⊢
    · cases h
  -- build
  · obtain ⟨v, gv, hrun⟩ := abuild_sound r h
    refine ⟨v, gv, fun w => ?_⟩
    simp only [execOp, Sem.run_bind, hrun, Result.andThen]
    simp
  -- binOp
  · obtain ⟨v, gv, hrun⟩ := anil_sound r h
    refine ⟨v, gv, fun w => ?_⟩
    simp only [execOp, Sem.run_bind]
    have := hrun w
    simp only [Sem.run_bind] at this
    rw [this]
    simp [Result.andThen]
  -- len
  · rename_i args ts
    split at h
    case h_2 => cases h
    rename_i x t hx0 ht0
    have hargs := toL hx0
    have hts := toL ht0
    subst hargs hts
    split at h
    · rename_i el i off len cap hu hx
      simp only [Option.some.injEq] at h; subst h
      have g := aeval_G r hx
      simp only [G] at g
      obtain ⟨b, z, he, hv⟩ := g
      refine ⟨_, rfl, fun w => ?_⟩
      simp [execOp, resolve, invoke, builtin, Builtin.len_, run_underlying hu, hv, Result.andThen, goInt]
    · rename_i el i off len ks hu hx
      simp only [Option.some.injEq] at h; subst h
      have g := aeval_G r hx
      simp only [G] at g
      obtain ⟨b, z, c, he, _, _, hv⟩ := g
      refine ⟨_, rfl, fun w => ?_⟩
      simp [execOp, resolve, invoke, builtin, Builtin.len_, run_underlying hu, hv, Result.andThen, goInt]
    · rename_i m el y hu hx
      simp only [Option.some.injEq] at h; subst h
      refine ⟨_, rfl, fun w => ?_⟩
      simp only [execOp, resolve, invoke, builtin, Builtin.len_, Sem.run_bind, run_underlying hu, Result.andThen]
      simp [goInt, run_underlying hu, Builtin.len_, Result.andThen]
    · cases h
  -- cap
  · rename_i args ts
    split at h
    case h_2 => cases h
    rename_i x t hx0 ht0
    have hargs := toL hx0
    have hts := toL ht0
    subst hargs hts
    split at h
    case h_2 => cases h
    rename_i el i off len cap hu hx
    simp only [Option.some.injEq] at h; subst h
    have g := aeval_G r hx
    simp only [G] at g
    obtain ⟨b, z, he, hv⟩ := g
    refine ⟨_, rfl, fun w => ?_⟩
    simp [execOp, resolve, invoke, builtin, Builtin.cap_, run_underlying hu, hv, Result.andThen, goInt]
  · cases h
theorem apure_sound {P : Program} {n : Nat} {e : Env} {T : Tm} {a : Act} (r : RT n e T a) {o : Oper} {z : AV} (h : apure P T o = some z) :
    ∃ v, G e z v ∧ ∀ w, (execOp a.eval o).run P w = .ok (.value v) w := by
  unfold apure at h
  split at h
  · rename_i z' hz
    simp only [Option.some.injEq] at h; subst h
    exact afast_sound r hz
  · split at h
    · simp only [Option.map_eq_some_iff] at h
      obtain ⟨v, hv, rfl⟩ := h
      exact ⟨v, rfl, fun w => exactRun_sound r hv w⟩
    · cases h
end Go.Mill
end

noncomputable section
namespace Go.Mill
open Go
variable [Syms]

abbrev Ro := Nat → Option (List Value)
/-- What is known of blocks that lay there at the start. -/
def RO (W0 : World) (R : Ro) : Prop := ∀ b l, R b = some l → ∃ C t lo hi, W0.heap[b]? = some (.cells C t (lo, hi)) ∧ C.toList = l

def cellsAt (R : Ro) (H : List AO) : AV → Option (List AV × Nat)
  | .ptr i off => match H[i]? with
    | some (.cells cs _ _ _) => some (cs, off)
    | _ => none
  | .v (.pointer (some ⟨b, off, none⟩)) => (R b).map fun l => (l.map .v, off)
  | _ => none
theorem cellsAt_sound {R : Ro} {W0 : World} {e : Env} {H : List AO} {w : World} (hR : RO W0 R) (rh : RH W0 e H w) {x : AV} {y : Value} {cs : List AV} {off : Nat} (h : cellsAt R H x = some (cs, off)) (g : G e x y) :
    ∃ b l, y = .pointer (some ⟨b, off, none⟩) ∧ Gs e cs l ∧ ∀ (j : Nat) (v : Value), l[j]? = some v → w.cell? ⟨b, j, none⟩ = some v := by
  unfold cellsAt at h
  split at h
  · rename_i i off'
    split at h
    case h_2 => cases h
    rename_i cs' t sp ro hi
    simp only [Option.some.injEq, Prod.mk.injEq] at h
    obtain ⟨rfl, rfl⟩ := h
    simp only [G] at g
    obtain ⟨b, s, he, rfl⟩ := g
    obtain ⟨C, lo, hi', hc, hs, ⟨vs, ex, hv, gs, _⟩, _⟩ := rh.ob _ _ _ _ hi he
    refine ⟨b, vs, rfl, gs, fun j v hj => ?_⟩
    have hlt := (List.getElem?_eq_some_iff.1 hj).1
    have : C.toList[j]? = some v := by rw [hv, List.getElem?_append_left hlt]; exact hj
    simp only [World.cell?, hc]
    simpa using this
  · rename_i b off'
    simp only [Option.map_eq_some_iff, Prod.mk.injEq] at h
    obtain ⟨l, hl, rfl, rfl⟩ := h
    simp only [G] at g; subst g
    obtain ⟨C, t, lo, hi, hc, hl'⟩ := hR b l hl
    have hb : b < W0.heap.size := by
      rcases Nat.lt_or_ge b W0.heap.size with h | h
      · exact h
      · rw [Array.getElem?_eq_none h] at hc; cases hc
    refine ⟨b, l, rfl, Gs.exact l, fun j v hj => ?_⟩
    have hw := rh.kept b hb
    simp only [World.cell?, hw, hc]
    have : C.toList[j]? = some v := by rw [hl']; exact hj
    simpa using this
  · cases h

theorem load_cells {P : Program} {w : World} {b : Nat} {l : List Value} (hc : ∀ (j : Nat) (v : Value), l[j]? = some v → w.cell? ⟨b, j, none⟩ = some v) {off n : Nat} (h : off + n ≤ l.length) :
    (loadCells ⟨b, off, none⟩ n).run P w = .ok ((l.drop off).take n).toArray w := by
  have hl : ((l.drop off).take n).length = n := by simp; omega
  have := run_loadCells_list (P := P) w ⟨b, off, none⟩ ((l.drop off).take n) (fun j v hj => by
    rw [Addr.add_lit]
    refine hc _ _ ?_
    have hj1 := (List.getElem?_eq_some_iff.1 hj).1
    rw [List.getElem?_take_of_lt (by omega), List.getElem?_drop] at hj
    exact hj)
  rwa [hl] at this

theorem aload_sound {P : Program} {R : Ro} {W0 : World} {e : Env} {H : List AO} {w : World} (hR : RO W0 R) (rh : RH W0 e H w) {t : TypeId} {x : AV} {y : Value} {cs : List AV} {off : Nat} {z : AV}
    (h : cellsAt R H x = some (cs, off)) (hz : apart P t cs off = some z) (g : G e x y) : ∃ v, G e z v ∧ (Instr.loadAt t y).run P w = .ok v w := by
  obtain ⟨b, l, rfl, gs, hc⟩ := cellsAt_sound hR rh h g
  simp only [apart, Option.bind_eq_bind, Option.bind_eq_some_iff] at hz
  obtain ⟨n, hn, bb, hb, hz⟩ := hz
  cases bb with
  | true =>
    simp only [if_true] at hz
    split at hz
    case isFalse => cases hz
    rename_i hle
    simp only [Option.some.injEq] at hz; subst hz
    have hle' : off + n ≤ cs.length := by simpa [Nat.ble_eq] using hle
    have := load_cells (P := P) hc (off := off) (n := n) (by rw [gs.length]; exact hle')
    refine ⟨.agg ((l.drop off).take n).toArray, ?_, ?_⟩
    · simp only [G]; exact ⟨_, rfl, by simpa using (gs.drop off).take n⟩
    · simp [Instr.loadAt, Instr.sureAddr, loadVar, run_isAgg hb, run_sz hn, this, Result.andThen]
  | false =>
    simp only [Bool.false_eq_true, if_false] at hz
    obtain ⟨v, hv, gv⟩ := gs.get hz
    refine ⟨v, gv, ?_⟩
    simp [Instr.loadAt, Instr.sureAddr, loadVar, run_isAgg hb, hc _ _ hv, Result.andThen]

/-! ### stores -/
def AV.one : AV → Bool
  | .v (.agg _) | .v (.tuple _) | .agg _ | .tup _ | .top => false
  | _ => true
theorem G.one {e : Env} {x : AV} {y : Value} (h : x.one = true) (g : G e x y) : y.oneCell' = true := by
  cases x <;> simp only [G] at g
  case v z => subst g; cases y <;> simp_all [AV.one, Value.oneCell']
  case ptr => obtain ⟨b, s, _, rfl⟩ := g; rfl
  case sl => obtain ⟨b, s, _, rfl⟩ := g; rfl
  case slu => obtain ⟨b, s, c, _, _, _, rfl⟩ := g; rfl
  case mp => obtain ⟨b, s, _, rfl⟩ := g; rfl
  case fn => obtain ⟨l, m, rfl, _⟩ := g; rfl
  case agg => simp [AV.one] at h
  case tup => simp [AV.one] at h
  case ifc => obtain ⟨z, rfl, _⟩ := g; rfl
  case top => simp [AV.one] at h
  case sym i => subst g; exact Syms.one i
theorem Gs.one {e : Env} : ∀ {xs : List AV} {ys : List Value}, xs.all AV.one = true → Gs e xs ys → ∀ y ∈ ys, y.oneCell' = true
  | [], _, _, g => by simp only [Gs] at g; subst g; simp
  | x :: xs, _, h, g => by
    simp only [Gs] at g; obtain ⟨z, zs, rfl, gx, gs⟩ := g
    simp only [List.all_cons, Bool.and_eq_true] at h
    intro y hy
    rcases List.mem_cons.1 hy with rfl | hy
    · exact gx.one h.1
    · exact Gs.one h.2 gs y hy

theorem run_storeCells {P : Program} {b off : Nat} {t : TypeId} {lo hi : Nat} : ∀ (vs : List Value) (i : Nat) (C : Array Value) (w : World), w.heap[b]? = some (.cells C t (lo, hi)) → off + i + vs.length ≤ C.size →
    (C.size ≤ lo ∨ hi ≤ lo) → (∀ y ∈ vs, y.oneCell' = true) →
    ∃ C' w', (storeCells ⟨b, off, none⟩ vs i).run P w = .ok () w' ∧ w'.heap.size = w.heap.size ∧ (∀ c, c ≠ b → w'.heap[c]? = w.heap[c]?) ∧ w'.heap[b]? = some (.cells C' t (lo, hi)) ∧ C'.toList = spliceV C.toList (off + i) vs ∧ w'.os = w.os ∧ w'.output = w.output ∧ w'.tape = w.tape := by
  intro vs
  induction vs with
  | nil => intro i C w h _ _ _; exact ⟨C, w, by simp [storeCells], rfl, fun _ _ => rfl, h, by simp [spliceV], rfl, rfl, rfl⟩
  | cons v vs ih =>
    intro i C w h hle hfz hone
    simp only [List.length_cons] at hle
    have hcell : w.cell? ⟨b, off + i, none⟩ = some (C[off + i]'(by omega)) := by
      simp only [World.cell?, h]; simp
    have hfr : w.frozen? ⟨b, off + i, none⟩ = false := by
      simp only [World.frozen?, h]
      rcases hfz with hz | hz
      · simp; omega
      · simp; omega
    have hone1 := hone v (by simp)
    have hbl : b < w.heap.size := by
      rcases Nat.lt_or_ge b w.heap.size with h' | h'
      · exact h'
      · rw [Array.getElem?_eq_none h'] at h; cases h
    have hset : (w.setCell ⟨b, off + i, none⟩ v).heap[b]? = some (.cells (C.setIfInBounds (off + i) v) t (lo, hi)) := by
      simp only [World.setCell]
      rw [Array.getElem?_modify]
      simp [h]
    have hoth : ∀ c, c ≠ b → (w.setCell ⟨b, off + i, none⟩ v).heap[c]? = w.heap[c]? := fun c hc => by
      simp only [World.setCell]
      rw [Array.getElem?_modify]
      simp [Ne.symm hc]
    have hsz : (w.setCell ⟨b, off + i, none⟩ v).heap.size = w.heap.size := by simp [World.setCell]
    obtain ⟨C', w', h1, h2, h3, h4, h5, h6, h7⟩ := ih (i + 1) (C.setIfInBounds (off + i) v) _ hset (by simp; omega) (by simpa using hfz) (fun y hy => hone y (by simp [hy]))
    refine ⟨C', w', ?_, by rw [h2, hsz], fun c hc => by rw [h3 c hc, hoth c hc], h4, ?_, h6, h7⟩
    · simp only [storeCells, Sem.run_bind, Addr.add_lit, run_store P w _ _ _ hone1, hcell, hfr, Result.andThen]
      simpa using h1
    · rw [h5]
      have e1 := set_foldl off (v :: vs) i C (by simp; omega)
      have e2 := set_foldl off vs (i + 1) (C.setIfInBounds (off + i) v) (by simp; omega)
      rw [← e1, ← e2]
      simp

/-- Cells laid into a block of the run's own. -/
theorem store_block {P : Program} {W0 : World} {e : Env} {H : List AO} {w : World} (rh : RH W0 e H w) {i b s off : Nat} {cs xs : List AV} {t : TypeId} {sp : Bool} {vs : List Value}
    (hi : H[i]? = some (.cells cs t sp false)) (he : e[i]? = some (b, s)) (gx : Gs e xs vs) (hone : xs.all AV.one = true) (hle : off + xs.length ≤ cs.length) :
    ∃ w', (storeCells ⟨b, off, none⟩ vs).run P w = .ok () w' ∧ RH W0 e (H.set i (.cells (splice cs off xs) t sp false)) w' := by
  obtain ⟨C, lo, hi', hc, hs, ⟨us, ex, hv, gs, hsp⟩, hfz⟩ := rh.ob _ _ _ _ hi he
  have hl1 : vs.length = xs.length := gx.length
  have hl2 : us.length = cs.length := gs.length
  have hl3 : C.size = us.length + ex.length := by rw [← Array.length_toList, hv, List.length_append]
  obtain ⟨C', w', h1, h2, h3, h4, h5, h6⟩ := run_storeCells (P := P) (b := b) (off := off) vs 0 C w hc (by omega) (by rw [hs]; exact (hfz rfl).imp_right Nat.le_of_eq) (gx.one hone)
  refine ⟨w', h1, rh.turn i b s he _ _ hi (by simp) w' h2 h3 ⟨C', lo, hi', h4, ?_, ⟨spliceV us off vs, ex, ?_, gs.splice off gx, hsp⟩, hfz⟩ h6⟩
  · rw [← hs, ← Array.length_toList, ← Array.length_toList, h5]
    simp [spliceV, hv]; omega
  · rw [h5, hv]
    simp only [spliceV, Nat.add_zero]
    rw [List.take_append_of_le_length (by omega), List.drop_append_of_le_length (by omega)]
    simp

def astore (P : Program) (H : List AO) (t : TypeId) (x y : AV) : Option (List AO) :=
  match x with
  | .ptr i off => match H[i]? with
    | some (.cells cs ct sp false) =>
      if Program.sz P t == some y.cells.length && y.cells.all AV.one && Nat.ble (off + y.cells.length) cs.length then some (H.set i (.cells (splice cs off y.cells) ct sp false)) else none
    | _ => none
  | _ => none
theorem astore_sound {P : Program} {W0 : World} {e : Env} {H H' : List AO} {w : World} (rh : RH W0 e H w) {t : TypeId} {x y : AV} {u v : Value} (h : astore P H t x y = some H') (gx : G e x u) (gy : G e y v) :
    ∃ w', (Instr.storeAt t u v).run P w = .ok () w' ∧ RH W0 e H' w' := by
  unfold astore at h
  split at h
  case h_2 => cases h
  rename_i i off
  split at h
  case h_2 => cases h
  rename_i cs ct sp hi
  split at h
  case isFalse => cases h
  rename_i hc
  simp only [Option.some.injEq] at h; subst h
  simp only [Bool.and_eq_true, beq_iff_eq, Nat.ble_eq] at hc
  obtain ⟨⟨hsz, hone⟩, hle⟩ := hc
  simp only [G] at gx
  obtain ⟨b, s, he, rfl⟩ := gx
  have gc := gy.cells
  obtain ⟨w', h1, h2⟩ := store_block (P := P) rh hi he gc hone hle
  refine ⟨w', ?_, h2⟩
  have hl : v.cells.size = y.cells.length := by rw [← gc.length]; simp
  simp only [Instr.storeAt, Instr.sureAddr, Sem.run_bind, Sem.run_pure, Result.andThen, storeVar, run_sz hsz]
  simp [hl, h1]

/-! ### new blocks -/
theorem new_cells {W0 : World} {e : Env} {H : List AO} {w : World} (rh : RH W0 e H w) (cs : List AV) (t : TypeId) (C : Array Value) (vs ex : List Value) (hv : C.toList = vs ++ ex) (gs : Gs e cs vs) (sp : Bool) (hsp : sp = false → ex = []) :
    RH W0 (e ++ [(w.heap.size, C.size)]) (H ++ [.cells cs t sp false]) { w with heap := w.heap.push (.cells C t) } :=
  rh.push _ _ _ fun _ _ hle hb => ⟨C, 0, 0, hb, rfl, ⟨vs, ex, hv, gs.mono hle, hsp⟩, fun _ => .inr rfl⟩
theorem snoc_last {e : Env} {H : List AO} {p : Nat × Nat} (h : e.length = H.length) : (e ++ [p])[H.length]? = some p := by rw [← h]; simp

theorem box_sound {P : Program} {W0 : World} {e : Env} {H : List AO} {w : World} (rh : RH W0 e H w) (t : TypeId) (xs : List AV) (v : Value) (g : Gs e xs v.cells.toList) :
    ∃ e' w', e.le e' ∧ G e' (.ptr H.length 0) (.pointer (some ⟨w.heap.size, 0, none⟩)) ∧ (newVar t v).run P w = .ok ⟨w.heap.size, 0, none⟩ w' ∧ RH W0 e' (H ++ [.cells xs t false false]) w' := by
  refine ⟨_, _, Env.le_snoc _ _, ?_, ?_, new_cells rh xs t v.cells v.cells.toList [] (by simp) g false (fun _ => rfl)⟩
  · simp only [G]; exact ⟨_, _, snoc_last rh.len, rfl⟩
  · simp [newVar, newRow, Result.andThen]
end Go.Mill
end

noncomputable section
namespace Go.Mill
open Go
variable [Syms]

/-! ### rows -/
/-- How many elements; their cells (k a piece). -/
def rowOf (H : List AO) (k : Nat) : AV → Option (Nat × List AV)
  | .sl i off len _ => match H[i]? with
    | some (.cells cs _ _ _) => if Nat.ble (off + len * k) cs.length then some (len, (cs.drop off).take (len * k)) else none
    | _ => none
  | .slu i off len _ => match H[i]? with
    | some (.cells cs _ _ _) => if Nat.ble (off + len * k) cs.length then some (len, (cs.drop off).take (len * k)) else none
    | _ => none
  | .v (.slice none 0 0) => some (0, [])
  | .v (.string s) => if Nat.beq k 1 then some (s.size, s.data.toList.map fun b => .v (.int .u8 b.toNat)) else none
  | _ => none
theorem block_cell {W0 : World} {e : Env} {H : List AO} {w : World} (rh : RH W0 e H w) {i b s : Nat} {cs : List AV} {t : TypeId} {sp ro : Bool} (hi : H[i]? = some (.cells cs t sp ro)) (he : e[i]? = some (b, s)) :
    ∃ l, Gs e cs l ∧ ∀ (j : Nat) (v : Value), l[j]? = some v → w.cell? ⟨b, j, none⟩ = some v := by
  obtain ⟨C, lo, hi', hc, hs, ⟨vs, ex, hv, gs, _⟩, _⟩ := rh.ob _ _ _ _ hi he
  refine ⟨vs, gs, fun j v hj => ?_⟩
  have hlt := (List.getElem?_eq_some_iff.1 hj).1
  have : C.toList[j]? = some v := by rw [hv, List.getElem?_append_left hlt]; exact hj
  simp only [World.cell?, hc]
  simpa using this
theorem rowOf_sound {P : Program} {W0 : World} {e : Env} {H : List AO} {w : World} (rh : RH W0 e H w) {k : Nat} {x : AV} {y : Value} {n : Nat} {cs : List AV} (h : rowOf H k x = some (n, cs)) (g : G e x y) :
    cs.length = n * k ∧ (Builtin.lenOf y).run P w = .ok n w ∧ ∀ m, m ≤ n → ∃ l, Gs e (cs.take (m * k)) l.toList ∧ (Builtin.firstCells k m y).run P w = .ok l w := by
  unfold rowOf at h
  split at h
  · rename_i i off len cap
    split at h
    case h_2 => cases h
    rename_i cs' t sp ro hi
    split at h
    case isFalse => cases h
    rename_i hle
    simp only [Option.some.injEq, Prod.mk.injEq] at h
    obtain ⟨rfl, rfl⟩ := h
    simp only [Nat.ble_eq] at hle
    simp only [G] at g
    obtain ⟨b, s, he, rfl⟩ := g
    obtain ⟨l, gl, hc⟩ := block_cell rh hi he
    refine ⟨by simp; omega, by simp [Builtin.lenOf], fun m hm => ?_⟩
    have hmk : m * k ≤ len * k := Nat.mul_le_mul_right _ hm
    refine ⟨((l.drop off).take (m * k)).toArray, ?_, ?_⟩
    · rw [List.take_take, Nat.min_eq_left hmk]; simpa using (gl.drop off).take _
    · simp only [Builtin.firstCells]
      exact load_cells hc (by rw [gl.length]; omega)
  · rename_i i off len k'
    split at h
    case h_2 => cases h
    rename_i cs' t sp ro hi
    split at h
    case isFalse => cases h
    rename_i hle
    simp only [Option.some.injEq, Prod.mk.injEq] at h
    obtain ⟨rfl, rfl⟩ := h
    simp only [Nat.ble_eq] at hle
    simp only [G] at g
    obtain ⟨b, s, c, he, _, _, rfl⟩ := g
    obtain ⟨l, gl, hc⟩ := block_cell rh hi he
    refine ⟨by simp; omega, by simp [Builtin.lenOf], fun m hm => ?_⟩
    have hmk : m * k ≤ len * k := Nat.mul_le_mul_right _ hm
    refine ⟨((l.drop off).take (m * k)).toArray, ?_, ?_⟩
    · rw [List.take_take, Nat.min_eq_left hmk]; simpa using (gl.drop off).take _
    · simp only [Builtin.firstCells]
      exact load_cells hc (by rw [gl.length]; omega)
  · simp only [Option.some.injEq, Prod.mk.injEq] at h
    obtain ⟨rfl, rfl⟩ := h
    simp only [G] at g; subst g
    refine ⟨by simp, by simp [Builtin.lenOf], fun m hm => ⟨#[], ?_, by simp [Builtin.firstCells]⟩⟩
    simp [Gs]
  · rename_i s
    split at h
    case isFalse => cases h
    rename_i hk
    have hk := Nat.eq_of_beq_eq_true hk
    subst hk
    simp only [Option.some.injEq, Prod.mk.injEq] at h
    obtain ⟨rfl, rfl⟩ := h
    simp only [G] at g; subst g
    refine ⟨by rw [List.length_map, Nat.mul_one]; rfl, by simp [Builtin.lenOf], fun m hm => ⟨(s.extract 0 m).data.map fun b => .int .u8 b.toNat, ?_, by simp only [Builtin.firstCells]; rfl⟩⟩
    have e1 : (s.extract 0 m).data.toList = s.data.toList.take m := by
      rw [ByteArray.data_extract]; simp
    rw [Array.toList_map, e1, Nat.mul_one, ← List.map_take]
    have := Gs.exact (e := e) ((s.data.toList.take m).map fun b => Value.int .u8 b.toNat)
    rwa [List.map_map] at this
  · cases h

def bytesOf (P : Program) (t : TypeId) : Option Nat := (P.info? t).map (·.bytes)


/-- A row's block gives way to a new view of it, or to a new block. -/
theorem RH.move {W0 : World} {e : Env} {H : List AO} {w : World} (r : RH W0 e H w) (i b s : Nat) (he : e[i]? = some (b, s)) (o o0 : AO) (h0 : H[i]? = some o0) (hd : o0 ≠ .dead)
    (w' : World) (hs : w'.heap.size = w.heap.size) (hk : ∀ c, c ≠ b → w'.heap[c]? = w.heap[c]?) (ho : ∀ e', e.le e' → OB e' w' b s o) (hso : w'.os = w.os ∧ w'.output = w.output ∧ w'.tape = w.tape := by exact ⟨rfl, rfl, rfl⟩) : RH W0 (e ++ [(b, s)]) (H.set i .dead ++ [o]) w' := by
  have r1 := r.turn i b s he (.dead) o0 h0 hd w' hs hk trivial hso
  have hlo := r1.lo i b s he
  refine ⟨by simp [r.len], ?_, ?_, ?_, r1.size, r1.kept, r1.same⟩
  · intro j o' c z h h'
    by_cases hj : j < e.length
    · rw [List.getElem?_append_left hj] at h'
      rw [List.getElem?_append_left (by simp [← r.len]; exact hj)] at h
      exact (r1.ob j o' c z h h').mono (Env.le_snoc _ _) rfl
    · have hj' : j = e.length := by
        have := (List.getElem?_eq_some_iff.1 h').1; simp at this; omega
      subst hj'
      simp at h'
      obtain ⟨rfl, rfl⟩ := h'
      rw [List.getElem?_append_right (by simp [r.len])] at h
      simp [r.len] at h; subst h
      exact ho _ (Env.le_snoc _ _)
  · intro j k c z z' h h' d d'
    have dead_i : (H.set i .dead)[i]? = some AO.dead := by
      have : i < H.length := (List.getElem?_eq_some_iff.1 h0).1
      rw [List.getElem?_set_self this]
    by_cases hj : j < e.length <;> by_cases hk : k < e.length
    · rw [List.getElem?_append_left hj] at h
      rw [List.getElem?_append_left hk] at h'
      rw [List.getElem?_append_left (by simp [← r.len]; exact hj)] at d
      rw [List.getElem?_append_left (by simp [← r.len]; exact hk)] at d'
      exact r1.inj j k c z z' h h' d d'
    · have hk' : k = e.length := by
        have := (List.getElem?_eq_some_iff.1 h').1; simp at this; omega
      subst hk'; simp at h'
      rw [List.getElem?_append_left hj] at h
      rw [List.getElem?_append_left (by simp [← r.len]; exact hj)] at d
      exfalso
      by_cases hji : j = i
      · subst hji; rw [dead_i] at d; exact d rfl
      · rw [List.getElem?_set_ne (Ne.symm hji)] at d
        obtain ⟨rfl, rfl⟩ := h'
        exact hji (r.inj j i b z s h he d (by rw [h0]; simpa using hd))
    · have hj' : j = e.length := by
        have := (List.getElem?_eq_some_iff.1 h).1; simp at this; omega
      subst hj'; simp at h
      rw [List.getElem?_append_left hk] at h'
      rw [List.getElem?_append_left (by simp [← r.len]; exact hk)] at d'
      exfalso
      by_cases hki : k = i
      · subst hki; rw [dead_i] at d'; exact d' rfl
      · rw [List.getElem?_set_ne (Ne.symm hki)] at d'
        obtain ⟨rfl, rfl⟩ := h
        exact hki (r.inj k i b z' s h' he d' (by rw [h0]; simpa using hd))
    · have := (List.getElem?_eq_some_iff.1 h').1
      have := (List.getElem?_eq_some_iff.1 h).1
      simp at *; omega
  · intro j c z h'
    by_cases hj : j < e.length
    · rw [List.getElem?_append_left hj] at h'
      exact r1.lo j c z h'
    · have hj' : j = e.length := by
        have := (List.getElem?_eq_some_iff.1 h').1; simp at this; omega
      subst hj'; simp at h'
      obtain ⟨rfl, rfl⟩ := h'
      exact hlo

/-! ### append -/
structure ElemT where
  e : TypeId
  i : TypeInfo
  z : Value
abbrev ElemT.k (E : ElemT) : Nat := E.i.size
abbrev ElemT.by_ (E : ElemT) : Nat := E.i.bytes
def elemT (P : Program) (t : TypeId) : Option ElemT :=
  match P.underlying t with
  | some (.slice el) => match P.info? el with
    | some i => match i.zero with
      | some z => if Nat.ble 1 i.bytes && Nat.beq z.cells.size i.size then some ⟨el, i, z⟩ else none
      | none => none
    | none => none
  | _ => none
def notZeros (P : Program) (ts : List TypeId) : Bool := match ts with
  | [_, x] => match P.underlying x with
    | some (.int _) => false
    | some _ => true
    | none => false
  | _ => false
def aappend (P : Program) (H : List AO) (ts : List TypeId) (s x : AV) : Option (AV × List AO) :=
  match ts with
  | t :: _ => do
    let E ← elemT P t
    let (n, new) ← rowOf H E.k x
    if !(notZeros P ts && new.all AV.one) then none else
    let grow (len : Nat) (old : List AV) : Option (AV × List AO) :=
      if Nat.ble ((len + n) * E.by_) 140737488355328 then some (.slu H.length 0 (len + n) E.k, H ++ [.cells (old ++ new) E.e true false]) else none
    match s with
    | .v (.slice none 0 0) => if Nat.beq n 0 then some (s, H) else grow 0 []
    | .sl i off len cap => match H[i]? with
      | some (.cells cs ct sp ro) =>
        if Nat.ble (len + n) cap then
          (if !ro && Nat.ble (off + (len + n) * E.k) cs.length then some (.sl i off (len + n) cap, H.set i (.cells (splice cs (off + len * E.k) new) ct sp false)) else none)
        else if Nat.ble (off + len * E.k) cs.length then grow len ((cs.drop off).take (len * E.k)) else none
      | _ => none
    | .slu i off len k => match H[i]? with
      | some (.cells cs ct sp ro) =>
        if !(Nat.beq k E.k && (!ro && Nat.ble 1 k)) then none
        else if Nat.ble (off + (len + n) * E.k) cs.length then some (.slu i off (len + n) k, H.set i (.cells (splice cs (off + len * E.k) new) ct sp false))
        else if Nat.beq off 0 && Nat.beq cs.length (len * E.k) && Nat.ble ((len + n) * E.by_) 140737488355328 && Nat.beq ct E.e then
          some (.slu H.length 0 (len + n) E.k, H.set i .dead ++ [.cells (cs ++ new) E.e true false])
        else none
      | _ => none
    | _ => none
  | [] => none
end Go.Mill
end
