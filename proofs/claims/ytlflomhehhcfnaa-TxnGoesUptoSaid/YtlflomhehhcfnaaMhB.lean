/- Types, abstract states, what a real frame and world must be like, operands. -/
import Derived.Test.YtlflomhehhcfnaaMhA
import Derived.KernelRfl
namespace Go.Mh
open Go Go.RowKit

structure TF where
  off : Nat
  size : Nat
  agg : Bool
/-- What a field's '==' compares. -/
inductive EK where
  | int
  | bool
  | str
structure TI where
  size : Nat
  agg : Bool
  zero : PV
  flds : Option (List TF) := none
  elem : Option (Nat × Nat) := none
  ik : Option IntKind := none
  isStr : Bool := false
  bytes : Nat := 8
  isBool : Bool := false
  eqk : Option (List EK) := none
abbrev TE := List (Nat × TI)

def pvIs1 : PV → Value → Bool
  | .int k n, .int k' n' => decide (k = k') && decide (n = n')
  | .bool b, .bool b' => b == b'
  | .str s, .string s' => s.data.toList == s'.data.toList
  | .nils, .slice none 0 0 => true
  | .raw .nilFunc, .nilFunc => true
  | .raw (.pointer none), .pointer none => true
  | .raw (.map none), .map none => true
  | _, _ => false
def pvIsL : List PV → List Value → Bool
  | [], [] => true
  | p :: l, v :: r => pvIs1 p v && pvIsL l r
  | _, _ => false
def pvIs : PV → Value → Bool
  | .agg l, .agg vs => pvIsL l vs.toList
  | p, v => pvIs1 p v

theorem ba_ext {s s' : ByteArray} (h : s.data.toList = s'.data.toList) : s = s' := by
  cases s; cases s'; simp at h; simp [h]

theorem pvIs1_V1 {g : G} {p : PV} {v : Value} (h : pvIs1 p v = true) : V1 g p v := by
  unfold pvIs1 at h
  split at h
  · simp at h; obtain ⟨rfl, rfl⟩ := h; exact RRel.int _ _
  · simp at h; subst h; exact RRel.bool _
  · have := ba_ext (by simpa using h); subst this; exact RRel.str _
  · exact RRel.nils
  · rfl
  · rfl
  · rfl
  · cases h

theorem pvIsL_V1 {g : G} : ∀ {l : List PV} {vs : List Value}, pvIsL l vs = true → vs.length = l.length ∧ ∀ (i : Nat) p v, l[i]? = some p → vs[i]? = some v → V1 g p v
  | [], [], _ => ⟨rfl, fun i p v h => by simp at h⟩
  | p :: l, v :: r, h => by
    have h : (pvIs1 p v && pvIsL l r) = true := h
    rw [Bool.and_eq_true] at h
    have ih := pvIsL_V1 (g := g) h.2
    refine ⟨by simp [ih.1], fun i q u h1 h2 => ?_⟩
    cases i with
    | zero => simp at h1 h2; subst h1; subst h2; exact pvIs1_V1 h.1
    | succ i => simp at h1 h2; exact ih.2 i q u h1 h2
  | [], _ :: _, h => by cases h
  | _ :: _, [], h => by cases h

theorem pvIs_V2 {g : G} {p : PV} {v : Value} (h : pvIs p v = true) : V2 g p v := by
  unfold pvIs at h
  split at h
  · rename_i l vs
    obtain ⟨h1, h2⟩ := pvIsL_V1 (g := g) h
    exact ⟨vs.toList, rfl, h1, h2⟩
  · rename_i h0
    have hv := pvIs1_V1 (g := g) h
    cases p <;> first | exact hv | (unfold pvIs1 at h; simp at h)

def fldOk (P : Program) : List TF → List Field → Bool
  | [], [] => true
  | x :: l, f :: r => decide (f.offset = x.off) && decide ((P.info? f.type).map (·.size) = some x.size) && decide (x.size ≠ 0) &&
      (match P.underlying f.type with | some d => decide (d.isRow = x.agg) | none => false) && fldOk P l r
  | _, _ => false

def ekOne : EK → Option TypeDesc → Bool
  | .int, some (.int _) => true
  | .bool, some .bool => true
  | .str, some .string => true
  | _, _ => false
def ekOk (P : Program) : Nat → List EK → List Field → Bool
  | _, [], [] => true
  | i, k :: l, f :: r => (f.name != "_") && decide (f.offset = i) && ekOne k (P.underlying f.type) && ekOk P (i + 1) l r
  | _, _, _ => false

def tyCheck (P : Program) (T : Nat) (ti : TI) : Bool :=
  (match P.info? T with
    | some i => decide (i.size = ti.size) && decide (i.bytes = ti.bytes) && (match i.zero with | some z => pvIs ti.zero z && decide (z.cells.size = ti.size) | none => false)
    | none => false) &&
  (match P.underlying T with | some d => decide (d.isRow = ti.agg) | none => false) &&
  (match ti.flds, P.underlying T with
    | some l, some (.struct fs) => fldOk P l fs.toList
    | some _, _ => false
    | none, _ => true) &&
  (match ti.elem, P.underlying T with
    | some (e, sz), some (.slice e') => decide (e = e') && decide ((P.info? e).map (·.size) = some sz)
    | some _, _ => false
    | none, _ => true) &&
  (match ti.ik, P.underlying T with
    | some k, some (.int k') => decide (k = k')
    | some _, _ => false
    | none, _ => true) &&
  (match ti.isStr, P.underlying T with
    | true, some .string => true
    | true, _ => false
    | false, _ => true) &&
  (match ti.isBool, P.underlying T with
    | true, some .bool => true
    | true, _ => false
    | false, _ => true) &&
  (match ti.eqk, P.underlying T with
    | some l, some (.struct fs) => ekOk P 0 l fs.toList && !(P.stoodInHeld T) && !(P.eqGuardType P.depth T)
    | some _, _ => false
    | none, _ => true)

structure TyOK (P : Program) (T : Nat) (ti : TI) : Prop where
  info : ∃ i z, P.info? T = some i ∧ i.size = ti.size ∧ i.bytes = ti.bytes ∧ i.zero = some z ∧ ∀ g, V2 g ti.zero z
  zsz : ∀ i z, P.info? T = some i → i.zero = some z → z.cells.size = ti.size
  row : ∃ d, P.underlying T = some d ∧ d.isRow = ti.agg
  flds : ∀ l, ti.flds = some l → ∃ fs, P.underlying T = some (.struct fs) ∧ fldOk P l fs.toList = true
  elem : ∀ e sz, ti.elem = some (e, sz) → P.underlying T = some (.slice e) ∧ (P.info? e).map (·.size) = some sz
  ik : ∀ k, ti.ik = some k → P.underlying T = some (.int k)
  isStr : ti.isStr = true → P.underlying T = some .string
  isBool : ti.isBool = true → P.underlying T = some .bool
  eqk : ∀ l, ti.eqk = some l → ∃ fs, P.underlying T = some (.struct fs) ∧ ekOk P 0 l fs.toList = true ∧ P.stoodInHeld T = false ∧ P.eqGuardType P.depth T = false

theorem TyOK.of {P : Program} {T : Nat} {ti : TI} (h : tyCheck P T ti = true) : TyOK P T ti := by
  unfold tyCheck at h
  simp only [Bool.and_eq_true] at h
  obtain ⟨⟨⟨⟨⟨⟨⟨h1, h2⟩, h3⟩, h4⟩, h5⟩, h6⟩, h7⟩, h8⟩ := h
  refine ⟨?_, ?_, ?_, ?_, ?_, ?_, ?_, ?_, ?_⟩
  · split at h1
    · rename_i i hi
      simp only [Bool.and_eq_true, decide_eq_true_eq] at h1
      obtain ⟨⟨ha, hb⟩, hz⟩ := h1
      split at hz
      · rename_i z hz'
        rw [Bool.and_eq_true] at hz
        exact ⟨i, z, hi, ha, hb, hz', fun g => pvIs_V2 hz.1⟩
      · cases hz
    · cases h1
  · intro i z hi hz
    rw [hi] at h1
    simp only [hz, Bool.and_eq_true, decide_eq_true_eq] at h1
    exact h1.2.2
  · split at h2
    · rename_i d hd; exact ⟨d, hd, by simpa using h2⟩
    · cases h2
  · intro l hl
    rw [hl] at h3
    split at h3
    · rename_i l' fs e1 e2; cases e1; exact ⟨fs, e2, h3⟩
    · cases h3
    · rename_i e1; cases e1
  · intro e sz hl
    rw [hl] at h4
    split at h4
    · rename_i e1 sz1 e' h0 h1'
      cases h0
      simp only [Bool.and_eq_true, decide_eq_true_eq] at h4
      rw [← h4.1] at h1'
      exact ⟨h1', h4.2⟩
    · cases h4
    · rename_i e1; cases e1
  · intro k hk
    rw [hk] at h5
    split at h5
    · rename_i k' k2 h0 h1'
      cases h0
      have := of_decide_eq_true h5
      subst this
      exact h1'
    · cases h5
    · rename_i e1; cases e1
  · intro hk
    rw [hk] at h6
    split at h6
    · assumption
    · cases h6
    · rename_i e1; cases e1
  · intro hk
    rw [hk] at h7
    split at h7
    · assumption
    · cases h7
    · rename_i e1; cases e1
  · intro l hl
    rw [hl] at h8
    split at h8
    · rename_i l' fs e1 e2
      cases e1
      simp only [Bool.and_eq_true, Bool.not_eq_true'] at h8
      exact ⟨fs, e2, h8.1.1, h8.1.2, h8.2⟩
    · cases h8
    · rename_i e1; cases e1

def TEOK (P : Program) (E : TE) : Prop := ∀ T ti, lk T E = some ti → TyOK P T ti
theorem TEOK.of {P : Program} : ∀ {E : TE}, (E.all fun p => tyCheck P p.1 p.2) = true → TEOK P E
  | [], _ => fun T ti h => by cases h
  | p :: l, h => fun T ti hl => by
    simp only [List.all_cons, Bool.and_eq_true] at h
    unfold lk at hl
    split at hl
    · rename_i e; cases hl; subst e; exact .of h.1
    · exact TEOK.of h.2 T ti hl

/-! ### States -/
structure Bx where
  T : Nat
  l : List PV
structure Rw where
  T : Nat
  sz : Nat
  xs : List PV
  ex : Bool := false
structure S where
  n : Nat
  t : List (Nat × PV)
  b : List (Nat × Bx)
  r : List (Nat × Rw)
/-- What a body began with: its world, what others may write, the old blocks that were handed over. -/
structure Ctx where
  w0 : World
  mu0 : Addr → Prop
  own : Nat → Prop
  β0 : Nat → Nat
  low : ∀ x : Addr, mu0 x → x.block < w0.heap.size ∧ ¬ own x.block
def Ctx.mine (c : Ctx) (k : Nat) : Prop := c.w0.heap.size ≤ k ∨ c.own k

/-- The old blocks stay, but for those that are one's own. -/
structure Blw (own : Nat → Prop) (w0 w : World) : Prop where
  os : w.os = w0.os
  tape : w.tape = w0.tape
  output : w.output = w0.output
  size : w0.heap.size ≤ w.heap.size
  block : ∀ k, k < w0.heap.size → ¬ own k → w.heap[k]? = w0.heap[k]?

def BoxAt (g : G) (id : Nat) (x : Bx) : Prop :=
  (∃ cs : List Value, g.w.heap[g.β id]? = some (.cells cs.toArray x.T (0, 0)) ∧ cs.length = x.l.length ∧
    (∀ (i : Nat) p v, x.l[i]? = some p → cs[i]? = some v → V1 g p v)) ∧ ∀ off, g.mu ⟨g.β id, off, none⟩

/-- An own row. What stands before its end is read by whoever, unless the row is written; what stands behind is the owner's. -/
def RowAt (g : G) (e : Nat) (x : Rw) : Prop :=
  ∃ cs : List Value, g.w.ownsRow 0 x.T x.sz (g.ρ e) x.xs.length cs ∧ (∀ y ∈ x.xs, y.cells.length = x.sz) ∧
    (∀ (i j : Nat) y p v, x.xs[i]? = some y → y.cells[j]? = some p → cs[i * x.sz + j]? = some v → RRel g.w g.mu p v) ∧
    ∀ k, (g.ρ e).ownBlock = some k → (∀ off, off < x.xs.length * x.sz → (g.mu ⟨k, off, none⟩ ↔ x.ex = true)) ∧ ∀ off, x.xs.length * x.sz ≤ off → g.mu ⟨k, off, none⟩

structure Hold (g : G) (b : List (Nat × Bx)) (r : List (Nat × Rw)) : Prop where
  boxes : ∀ id x, lk id b = some x → BoxAt g id x
  apart : ∀ i j x y, lk i b = some x → lk j b = some y → i ≠ j → g.β i ≠ g.β j
  rows : ∀ e x, lk e r = some x → RowAt g e x
  rbox : ∀ e x i y, lk e r = some x → lk i b = some y → (g.ρ e).ownBlock ≠ some (g.β i)
  rrow : ∀ e x e' x' k, lk e r = some x → lk e' r = some x' → e ≠ e' → (g.ρ e).ownBlock = some k → (g.ρ e').ownBlock ≠ some k

structure Rel (c : Ctx) (s : S) (g : G) (a : Act) : Prop extends Hold g s.b s.r where
  defers : a.defers = []
  size : a.tmps.size = s.n
  tmps : ∀ t pv, lk t s.t = some pv → V4 g pv (a.tmps.getD t undef)
  bmine : ∀ id x, lk id s.b = some x → c.mine (g.β id)
  rmine : ∀ e x k, lk e s.r = some x → (g.ρ e).ownBlock = some k → c.mine k
  below : Blw c.own c.w0 g.w
  base : ∀ a, c.mu0 a → g.mu a
  lim : ∀ a, g.mu a → a.block < g.w.heap.size
  rho : ∀ e, (g.ρ e).oneCell' = true
  fixed : ∀ i, 100000 ≤ i → g.β i = c.β0 i

theorem Rel.box_lt {c : Ctx} {s : S} {g : G} {a : Act} (hR : Rel c s g a) {i : Nat} {x : Bx} (hx : lk i s.b = some x) : g.β i < g.w.heap.size := by
  obtain ⟨⟨_, h2, _⟩, _⟩ := hR.boxes i x hx
  exact (Array.getElem?_eq_some_iff.1 h2).1
theorem Hold.row_lt {g : G} {b : List (Nat × Bx)} {r : List (Nat × Rw)} (hR : Hold g b r) {e : Nat} {x : Rw} {k : Nat} (hx : lk e r = some x) (hk : (g.ρ e).ownBlock = some k) : k < g.w.heap.size := by
  obtain ⟨cs', ⟨_, h2⟩, _⟩ := hR.rows e x hx
  rcases h2 with ⟨h2, _⟩ | ⟨gg, cap, cur, e1, _, e3, _⟩
  · rw [h2] at hk; cases hk
  · rw [e1] at hk
    have : gg = k := by simpa [Value.ownBlock] using hk
    subst this
    exact (Array.getElem?_eq_some_iff.1 e3).1

theorem Blw.refl (own : Nat → Prop) (w : World) : Blw own w w := ⟨rfl, rfl, rfl, Nat.le_refl _, fun _ _ _ => rfl⟩
theorem Blw.alloc {own : Nat → Prop} {w0 w : World} (h : Blw own w0 w) (o : Obj) : Blw own w0 (w.alloc o) :=
  ⟨h.os, h.tape, h.output, by show _ ≤ (w.heap.push o).size; rw [Array.size_push]; exact Nat.le_succ_of_le h.size, fun k hk hn => by
    rw [Go.heap_alloc_old _ _ _ (Nat.lt_of_lt_of_le hk h.size)]
    exact h.block k hk hn⟩
theorem Blw.below {own : Nat → Prop} {w0 w w' : World} (h : Blw own w0 w) (hb : Below w.heap.size w w') : Blw own w0 w' :=
  ⟨hb.os.trans h.os, hb.tape.trans h.tape, hb.output.trans h.output, Nat.le_trans h.size hb.size, fun k hk hn => (hb.block k (Nat.lt_of_lt_of_le hk h.size)).trans (h.block k hk hn)⟩
theorem Blw.setCells {own : Nat → Prop} {w0 : World} {b : Nat} (hb : w0.heap.size ≤ b ∨ own b) : ∀ (vs : List Value) (o : Nat) (w : World), Blw own w0 w → Blw own w0 (w.setCells b o vs)
  | [], _, _, h => h
  | v :: r, o, w, h => by
    rw [World.setCells]
    refine Blw.setCells hb r (o + 1) _ ⟨h.os, h.tape, h.output, by simpa [World.setCell] using h.size, fun k hk hn => ?_⟩
    rw [Below.heap_setCell w _ _ _ (fun e => by
      subst e
      rcases hb with hb | hb
      · exact absurd hk (Nat.not_lt.2 hb)
      · exact hn hb)]
    exact h.block k hk hn

def S.put (s : S) (d : Option Nat) (pv : PV) : S :=
  match d with
  | some d => { s with t := (d, pv) :: s.t }
  | none => s

theorem Rel.put {c : Ctx} {s : S} {g : G} {a : Act} (h : Rel c s g a) (d : Option Nat) (hd : ∀ i, d = some i → i < s.n) {pv : PV} {v : Value} (hv : V4 g pv v) :
    Rel c (s.put d pv) g (a.put d v) := by
  cases d with
  | none => exact h
  | some d =>
    refine { h with size := by simp [Act.put, S.put, h.size], tmps := fun t q hq => ?_ }
    have hlt : d < a.tmps.size := by rw [h.size]; exact hd d rfl
    simp only [S.put, lk] at hq
    simp only [Act.put]
    split at hq
    · rename_i e
      subst e
      cases hq
      simpa [Array.getD, hlt] using hv
    · rename_i e
      have := h.tmps t q hq
      have he : (a.tmps.setIfInBounds d v).getD t undef = a.tmps.getD t undef := by
        simp only [Array.getD_eq_getD_getElem?, Array.getElem?_setIfInBounds]
        rw [if_neg (fun h => e h.symm)]
      rw [he]
      exact this

/-- What holds in a state holds in one that tells less. -/
structure Sub (s s' : S) : Prop where
  n : s.n = s'.n
  t : ∀ t pv, lk t s.t = some pv → lk t s'.t = some pv
  b : ∀ t pv, lk t s.b = some pv → lk t s'.b = some pv
  r : ∀ t pv, lk t s.r = some pv → lk t s'.r = some pv

theorem Rel.sub {c : Ctx} {s s' : S} {g : G} {a : Act} (h : Rel c s' g a) (k : Sub s s') : Rel c s g a where
  defers := h.defers
  size := by rw [h.size, k.n]
  tmps := fun t pv ht => h.tmps t pv (k.t t pv ht)
  boxes := fun t pv ht => h.boxes t pv (k.b t pv ht)
  apart := fun i j x y hx hy => h.apart i j x y (k.b _ _ hx) (k.b _ _ hy)
  rows := fun t pv ht => h.rows t pv (k.r t pv ht)
  rbox := fun e x i y hx hy => h.rbox e x i y (k.r _ _ hx) (k.b _ _ hy)
  rrow := fun e x e' x' k' hx hy => h.rrow e x e' x' k' (k.r _ _ hx) (k.r _ _ hy)
  bmine := fun t pv ht => h.bmine t pv (k.b t pv ht)
  rmine := fun t pv b ht => h.rmine t pv b (k.r t pv ht)
  below := h.below
  base := h.base
  lim := h.lim
  rho := h.rho
  fixed := h.fixed

def subL {α : Type} : List (Nat × α) → List (Nat × α) → Prop
  | [], _ => True
  | p :: l, m => lk p.1 m = some p.2 ∧ subL l m
theorem subL_lk {α : Type} : ∀ {l m : List (Nat × α)}, subL l m → ∀ t v, lk t l = some v → lk t m = some v
  | [], _, _, t, v, h => by cases h
  | p :: l, m, h, t, v, hl => by
    unfold lk at hl
    split at hl
    · rename_i e; cases hl; subst e; exact h.1
    · exact subL_lk h.2 t v hl
theorem Sub.mk' {s s' : S} (hn : s.n = s'.n) (ht : subL s.t s'.t) (hb : subL s.b s'.b) (hr : subL s.r s'.r) : Sub s s' :=
  ⟨hn, subL_lk ht, subL_lk hb, subL_lk hr⟩
theorem Sub.refl (s : S) : Sub s s := ⟨rfl, fun _ _ h => h, fun _ _ h => h, fun _ _ h => h⟩

/-! ### Operands -/
def constPV : Value → Option PV
  | .int k n => some (.int k n)
  | .bool b => some (.bool b)
  | .string s => some (.str s)
  | .slice none 0 0 => some .nils
  | .nilFunc => some (.raw .nilFunc)
  | .pointer none => some (.raw (.pointer none))
  | _ => none

def evp (s : S) : Operand → Option (PV × Prop)
  | .tmp t => match lk t s.t with
    | some (.opt c x) => some (x, c = true)
    | some x => some (x, True)
    | none => none
  | .const v => match constPV v with
    | some x => some (x, True)
    | none => none
  | .func f => some (.clo f [], True)
  | _ => none

theorem V3_of_V4 {g : G} {pv : PV} {v : Value} (hn : ∀ c x, pv ≠ .opt c x) (h : V4 g pv v) : V3 g pv v := by
  cases pv <;> first | exact h | exact absurd rfl (hn _ _)
theorem constPV_V3 {g : G} {v : Value} {pv : PV} (h : constPV v = some pv) : V3 g pv v := by
  unfold constPV at h
  split at h <;> first
    | (cases h; first | exact RRel.int _ _ | exact RRel.bool _ | exact RRel.str _ | exact RRel.nils | exact (rfl : Value.nilFunc = _) | exact (rfl : Value.pointer none = _))
    | cases h

theorem evp_sound {c : Ctx} {s : S} {g : G} {a : Act} (h : Rel c s g a) {x : Operand} {pv : PV} {ob : Prop} (he : evp s x = some (pv, ob)) (hob : ob) : V3 g pv (a.eval x) := by
  unfold evp at he
  split at he
  · rename_i t
    split at he
    · rename_i c x hl
      cases he
      have := h.tmps t _ hl
      have this : (if c = true then V3 g pv (a.tmps.getD t undef) else a.tmps.getD t undef = undef) := this
      rw [if_pos hob] at this
      exact this
    · rename_i x hn hl
      cases he
      exact V3_of_V4 (fun c x e => hn c x e) (h.tmps t _ hl)
    · cases he
  · split at he
    · rename_i x hx
      cases he
      exact constPV_V3 hx
    · cases he
  · cases he
    exact V3.of (.clo _ [] [] rfl (fun i pv v h => by simp at h))
  · cases he
end Go.Mh
