/- Pure values and what a world must hold for them. Generic: no program in sight. -/
import Derived.Below
import Derived.Maps.AppendAt
import Derived.Deep.MidRow
import Derived.Deep.Draws
import Derived.Laws.NewBlocks
namespace Go.Mh
open Go Go.RowKit

inductive PV where
  | int (k : IntKind) (n : Int)
  | bool (b : Bool)
  | str (s : ByteArray)
  | agg (l : List PV)
  | tup (l : List PV)
  | sl (xs : List PV)
  | nils
  | eptr (l : List PV)
  | clo (f : Nat) (l : List PV)
  | ref (id off : Nat)
  | mref (id : Nat)
  | row (e : Nat)
  | rptr (e sz i f : Nat)
  | rsl (e sz lo n : Nat)
  | cloB (f : Nat) (l : List Nat)
  | opt (c : Bool) (x : PV)
  | raw (v : Value)
  | any
  deriving Inhabited

def PV.cells : PV → List PV
  | .agg l => l
  | x => [x]

def lk {α : Type} : Nat → List (Nat × α) → Option α
  | _, [] => none
  | k, p :: l => if k = p.1 then some p.2 else lk k l

/-- Readable data: numbers, texts, flat structs of them, slices that lie where nothing is written. -/
inductive RRel (w : World) (mu : Addr → Prop) : PV → Value → Prop
  | int (k : IntKind) (n : Int) : RRel w mu (.int k n) (.int k n)
  | bool (b : Bool) : RRel w mu (.bool b) (.bool b)
  | str (s : ByteArray) : RRel w mu (.str s) (.string s)
  | nils : RRel w mu .nils (.slice none 0 0)
  | agg (l : List PV) (vs : List Value) (hl : vs.length = l.length)
      (h : ∀ (i : Nat) pv v, l[i]? = some pv → vs[i]? = some v → RRel w mu pv v) : RRel w mu (.agg l) (.agg vs.toArray)
  | sl (xs : List PV) (A : Option Addr) (c sz : Nat) (u : Nat → Nat → Value) (hc : xs.length ≤ c) (hm : c ≤ maxLen)
      (hsz : ∀ x ∈ xs, x.cells.length = sz)
      (hA : xs ≠ [] → ∃ ad, A = some ad ∧ ∀ i j, i < xs.length → j < sz → ¬ mu (ad.add (i * sz + j)) ∧ w.cell? (ad.add (i * sz + j)) = some (u i j))
      (h : ∀ (i j : Nat) x pv, xs[i]? = some x → x.cells[j]? = some pv → RRel w mu pv (u i j)) : RRel w mu (.sl xs) (.slice A xs.length c)
  | eptr (l : List PV) (ad : Addr) (u : Nat → Value) (hA : ∀ j, j < l.length → ¬ mu (ad.add j) ∧ w.cell? (ad.add j) = some (u j))
      (h : ∀ (j : Nat) pv, l[j]? = some pv → RRel w mu pv (u j)) : RRel w mu (.eptr l) (.pointer (some ad))
  | clo (f : Nat) (l : List PV) (vs : List Value) (hl : vs.length = l.length)
      (h : ∀ (i : Nat) pv v, l[i]? = some pv → vs[i]? = some v → RRel w mu pv v) : RRel w mu (.clo f l) (.func (.func f) #[] vs.toArray)

theorem RRel.mono {w w' : World} {mu mu' : Addr → Prop} {pv : PV} {v : Value} (hr : RRel w mu pv v)
    (hk : ∀ a u, ¬ mu a → w.cell? a = some u → ¬ mu' a ∧ w'.cell? a = some u) : RRel w' mu' pv v := by
  induction hr with
  | int k n => exact .int k n
  | bool b => exact .bool b
  | str s => exact .str s
  | nils => exact .nils
  | agg l vs hl h ih => exact .agg l vs hl ih
  | sl xs A c sz u hc hm hsz hA h ih =>
    refine .sl xs A c sz u hc hm hsz (fun hne => ?_) ih
    obtain ⟨ad, e, hi⟩ := hA hne
    exact ⟨ad, e, fun i j h1 h2 => hk _ _ (hi i j h1 h2).1 (hi i j h1 h2).2⟩
  | eptr l ad u hA h ih => exact .eptr l ad u (fun j hj => hk _ _ (hA j hj).1 (hA j hj).2) ih
  | clo f l vs hl h ih => exact .clo f l vs hl ih

/-- What a state hangs on beside the frame: the world, what may be written, where boxes and rows lie. -/
structure G where
  w : World
  mu : Addr → Prop
  β : Nat → Nat
  ρ : Nat → Value

/-- A value of level 1: data, or what hangs on own boxes and rows. -/
def V1 (g : G) : PV → Value → Prop
  | .ref id off, v => v = .pointer (some ⟨g.β id, off, none⟩)
  | .mref id, v => v = .map (some (g.β id))
  | .row e, v => v = g.ρ e
  | .rptr e sz i f, v => ∃ b n cap, g.ρ e = .slice (some ⟨b, 0, none⟩) n cap ∧ v = .pointer (some ⟨b, i * sz + f, none⟩)
  | .rsl e sz lo n, v => ∃ b m cap, g.ρ e = .slice (some ⟨b, 0, none⟩) m cap ∧ v = .slice (some ⟨b, lo * sz, none⟩) n (cap - lo)
  | .cloB f l, v => v = .func (.func f) #[] (l.map fun i => Value.pointer (some ⟨g.β i, 0, none⟩)).toArray
  | .raw x, v => v = x
  | .any, _ => True
  | pv, v => RRel g.w g.mu pv v

def V2 (g : G) : PV → Value → Prop
  | .agg l, v => ∃ vs : List Value, v = .agg vs.toArray ∧ vs.length = l.length ∧ ∀ (i : Nat) pv u, l[i]? = some pv → vs[i]? = some u → V1 g pv u
  | pv, v => V1 g pv v

def V3 (g : G) : PV → Value → Prop
  | .tup l, v => ∃ vs : List Value, v = .tuple vs.toArray ∧ vs.length = l.length ∧ ∀ (i : Nat) pv u, l[i]? = some pv → vs[i]? = some u → V2 g pv u
  | pv, v => V2 g pv v

def V4 (g : G) : PV → Value → Prop
  | .opt c x, v => if c = true then V3 g x v else v = undef
  | pv, v => V3 g pv v

theorem V1.of {g : G} {pv : PV} {v : Value} (h : RRel g.w g.mu pv v) : V1 g pv v := by
  cases h <;> first
    | exact .int _ _ | exact .bool _ | exact .str _ | exact .nils
    | exact RRel.agg _ _ ‹_› ‹_› | exact RRel.sl _ _ _ _ _ ‹_› ‹_› ‹_› ‹_› ‹_› | exact RRel.eptr _ _ _ ‹_› ‹_› | exact RRel.clo _ _ _ ‹_› ‹_›

theorem V2.of {g : G} {pv : PV} {v : Value} (h : RRel g.w g.mu pv v) : V2 g pv v := by
  cases h with
  | agg l vs hl h => exact ⟨vs, rfl, hl, fun i pv u h1 h2 => V1.of (h i pv u h1 h2)⟩
  | int k n => exact .int _ _
  | bool b => exact .bool _
  | str s => exact .str _
  | nils => exact .nils
  | sl xs A c sz u hc hm hsz hA h => exact .sl _ _ _ _ _ hc hm hsz hA h
  | eptr l ad u hA h => exact .eptr _ _ _ hA h
  | clo f l vs hl h => exact .clo _ _ _ hl h

theorem V3.of {g : G} {pv : PV} {v : Value} (h : RRel g.w g.mu pv v) : V3 g pv v := by
  have h2 := V2.of h
  cases h <;> exact h2
theorem V4.of {g : G} {pv : PV} {v : Value} (h : RRel g.w g.mu pv v) : V4 g pv v := by
  have h2 := V3.of h
  cases h <;> exact h2

theorem V2_iff {g : G} {pv : PV} {v : Value} (hn : ∀ l, pv ≠ .agg l) : V2 g pv v ↔ V1 g pv v := by
  cases pv <;> first | exact Iff.rfl | exact absurd rfl (hn _)
theorem V3_iff {g : G} {pv : PV} {v : Value} (hn : ∀ l, pv ≠ .tup l) : V3 g pv v ↔ V2 g pv v := by
  cases pv <;> first | exact Iff.rfl | exact absurd rfl (hn _)
theorem V4_iff {g : G} {pv : PV} {v : Value} (hn : ∀ c x, pv ≠ .opt c x) : V4 g pv v ↔ V3 g pv v := by
  cases pv <;> first | exact Iff.rfl | exact absurd rfl (hn _ _)
theorem agg_or (pv : PV) : (∃ l, pv = .agg l) ∨ ∀ l, pv ≠ .agg l := by
  cases pv <;> first | exact .inl ⟨_, rfl⟩ | exact .inr (fun _ e => by cases e)
theorem tup_or (pv : PV) : (∃ l, pv = .tup l) ∨ ∀ l, pv ≠ .tup l := by
  cases pv <;> first | exact .inl ⟨_, rfl⟩ | exact .inr (fun _ e => by cases e)
theorem opt_or (pv : PV) : (∃ c x, pv = .opt c x) ∨ ∀ c x, pv ≠ .opt c x := by
  cases pv <;> first | exact .inl ⟨_, _, rfl⟩ | exact .inr (fun _ _ e => by cases e)

theorem V2.of1 {g : G} {pv : PV} {v : Value} (h : V1 g pv v) : V2 g pv v := by
  rcases agg_or pv with ⟨l, rfl⟩ | hn
  · exact V2.of (pv := .agg l) h
  · exact (V2_iff hn).2 h
theorem V3.of2 {g : G} {pv : PV} {v : Value} (h : V2 g pv v) : V3 g pv v := by
  rcases tup_or pv with ⟨l, rfl⟩ | hn
  · have h : RRel g.w g.mu (.tup l) v := h; cases h
  · exact (V3_iff hn).2 h
theorem V4.of3 {g : G} {pv : PV} {v : Value} (h : V3 g pv v) : V4 g pv v := by
  rcases opt_or pv with ⟨c, x, rfl⟩ | hn
  · have h : RRel g.w g.mu (.opt c x) v := h; cases h
  · exact (V4_iff hn).2 h
theorem V3.of1 {g : G} {pv : PV} {v : Value} (h : V1 g pv v) : V3 g pv v := .of2 (.of1 h)

/-! ### a test, a change, level by level -/
def all2 (q : PV → Bool) : PV → Bool
  | .agg l => l.all q
  | x => q x
def all3 (q : PV → Bool) : PV → Bool
  | .tup l => l.all (all2 q)
  | x => all2 q x
def all4 (q : PV → Bool) : PV → Bool
  | .opt _ x => all3 q x
  | x => all3 q x
def map2 (f : PV → PV) : PV → PV
  | .agg l => .agg (l.map f)
  | x => f x
def map3 (f : PV → PV) : PV → PV
  | .tup l => .tup (l.map (map2 f))
  | x => map2 f x
def map4 (f : PV → PV) : PV → PV
  | .opt c x => .opt c (map3 f x)
  | x => map3 f x
theorem map2_id (pv : PV) : map2 id pv = pv := by cases pv <;> simp [map2]
theorem map2_id' : map2 id = id := funext map2_id
theorem map3_id (pv : PV) : map3 id pv = pv := by
  rcases tup_or pv with ⟨l, rfl⟩ | hn
  · show PV.tup (l.map (map2 id)) = _
    rw [map2_id', List.map_id]
  · have e : map3 id pv = map2 id pv := by cases pv <;> first | rfl | exact absurd rfl (hn _)
    rw [e, map2_id]
theorem map4_id (pv : PV) : map4 id pv = pv := by
  rcases opt_or pv with ⟨c, x, rfl⟩ | hn
  · show PV.opt c (map3 id x) = _
    rw [map3_id]
  · have e : map4 id pv = map3 id pv := by cases pv <;> first | rfl | exact absurd rfl (hn _ _)
    rw [e, map3_id]

section
variable {g g' : G} {q : PV → Bool} {f : PV → PV} {pv : PV} {v : Value}
theorem V2.lift (H : ∀ p v, q p = true → V1 g p v → V1 g' (f p) v) (hq : all2 q pv = true) (h : V2 g pv v) : V2 g' (map2 f pv) v := by
  rcases agg_or pv with ⟨l, rfl⟩ | hn
  · obtain ⟨vs, rfl, hl, hi⟩ := h
    refine ⟨vs, rfl, by simp [hl], fun i p u h1 h2 => ?_⟩
    rw [List.getElem?_map, Option.map_eq_some_iff] at h1
    obtain ⟨p', hp, rfl⟩ := h1
    exact H p' u (List.all_eq_true.1 hq p' (List.mem_of_getElem? hp)) (hi i p' u hp h2)
  · have e : map2 f pv = f pv := by cases pv <;> first | rfl | exact absurd rfl (hn _)
    have e' : q pv = true := by cases pv <;> first | exact hq | exact absurd rfl (hn _)
    rw [e]
    exact V2.of1 (H pv v e' ((V2_iff hn).1 h))
theorem V3.lift (H : ∀ p v, q p = true → V1 g p v → V1 g' (f p) v) (hq : all3 q pv = true) (h : V3 g pv v) : V3 g' (map3 f pv) v := by
  rcases tup_or pv with ⟨l, rfl⟩ | hn
  · obtain ⟨vs, rfl, hl, hi⟩ := h
    refine ⟨vs, rfl, by simp [hl], fun i p u h1 h2 => ?_⟩
    rw [List.getElem?_map, Option.map_eq_some_iff] at h1
    obtain ⟨p', hp, rfl⟩ := h1
    exact V2.lift H (List.all_eq_true.1 hq p' (List.mem_of_getElem? hp)) (hi i p' u hp h2)
  · have e : map3 f pv = map2 f pv := by cases pv <;> first | rfl | exact absurd rfl (hn _)
    have e' : all2 q pv = true := by cases pv <;> first | exact hq | exact absurd rfl (hn _)
    rw [e]
    exact V3.of2 (V2.lift H e' ((V3_iff hn).1 h))
theorem V4.lift (H : ∀ p v, q p = true → V1 g p v → V1 g' (f p) v) (hq : all4 q pv = true) (h : V4 g pv v) : V4 g' (map4 f pv) v := by
  rcases opt_or pv with ⟨b, x, rfl⟩ | hn
  · have h : (if b = true then V3 g x v else v = undef) := h
    show (if b = true then V3 g' (map3 f x) v else v = undef)
    split
    · rename_i hc; rw [if_pos hc] at h; exact V3.lift H hq h
    · rename_i hc; rw [if_neg hc] at h; exact h
  · have e : map4 f pv = map3 f pv := by cases pv <;> first | rfl | exact absurd rfl (hn _ _)
    have e' : all3 q pv = true := by cases pv <;> first | exact hq | exact absurd rfl (hn _ _)
    rw [e]
    exact V4.of3 (V3.lift H e' ((V4_iff hn).1 h))
end
theorem all2_true (pv : PV) : all2 (fun _ => true) pv = true := by cases pv <;> simp [all2]
theorem all3_true (pv : PV) : all3 (fun _ => true) pv = true := by cases pv <;> simp [all3, all2_true]
theorem all4_true (pv : PV) : all4 (fun _ => true) pv = true := by cases pv <;> simp [all4, all3_true]

/-- Does a value point to a box? -/
def n1 (id : Nat) : PV → Bool
  | .ref i _ => !(i == id)
  | .mref i => !(i == id)
  | .cloB _ l => l.all fun i => !(i == id)
  | _ => true
def n4 (id : Nat) : PV → Bool := all4 (n1 id)

/-- One world behind another: what was readable is readable; boxes (but perhaps one) and rows lie where they lay. -/
structure Step (g g' : G) (id : Nat) : Prop where
  keep : ∀ a u, ¬ g.mu a → g.w.cell? a = some u → ¬ g'.mu a ∧ g'.w.cell? a = some u
  β : ∀ i, i ≠ id → g'.β i = g.β i
  ρ : g'.ρ = g.ρ

theorem V1.step {g g' : G} {id : Nat} (s : Step g g' id) {pv : PV} {v : Value} (hn : n1 id pv = true) (h : V1 g pv v) : V1 g' pv v := by
  cases pv with
  | ref i off =>
    have hi : i ≠ id := by simpa [n1] using hn
    have : v = .pointer (some ⟨g.β i, off, none⟩) := h
    subst this
    show _ = Value.pointer (some ⟨g'.β i, off, none⟩)
    rw [s.β i hi]
  | mref i =>
    have hi : i ≠ id := by simpa [n1] using hn
    have : v = .map (some (g.β i)) := h
    subst this
    show _ = Value.map (some (g'.β i))
    rw [s.β i hi]
  | cloB f l =>
    have : v = .func (.func f) #[] (l.map fun i => Value.pointer (some ⟨g.β i, 0, none⟩)).toArray := h
    subst this
    show _ = Value.func (.func f) #[] (l.map fun i => Value.pointer (some ⟨g'.β i, 0, none⟩)).toArray
    congr 2
    refine List.map_congr_left fun i hi => ?_
    have hn : (l.all fun i => !(i == id)) = true := hn
    have := List.all_eq_true.1 hn i hi
    rw [s.β i (by simpa using this)]
  | row e => exact (show v = g'.ρ e by rw [s.ρ]; exact h)
  | rptr e sz i f =>
    show ∃ b n cap, g'.ρ e = _ ∧ _
    rw [s.ρ]; exact h
  | rsl e sz lo n =>
    show ∃ b m cap, g'.ρ e = _ ∧ _
    rw [s.ρ]; exact h
  | raw x => exact h
  | any => trivial
  | int k n => exact RRel.mono h s.keep
  | bool b => exact RRel.mono h s.keep
  | str x => exact RRel.mono h s.keep
  | agg l => exact RRel.mono h s.keep
  | tup l => exact RRel.mono h s.keep
  | sl l => exact RRel.mono h s.keep
  | nils => exact RRel.mono h s.keep
  | eptr l => exact RRel.mono h s.keep
  | clo f l => exact RRel.mono h s.keep
  | opt c x => exact RRel.mono h s.keep
theorem V4.step {g g' : G} {id : Nat} (s : Step g g' id) {pv : PV} {v : Value} (hn : n4 id pv = true) (h : V4 g pv v) : V4 g' pv v := by
  have := V4.lift (f := fun p => p) (q := n1 id) (fun p v h1 h2 => V1.step s h1 h2) hn h
  rwa [show map4 (fun p => p) pv = pv from map4_id pv] at this

/-- Where no box moves at all. -/
structure Same (g g' : G) : Prop where
  keep : ∀ a u, ¬ g.mu a → g.w.cell? a = some u → ¬ g'.mu a ∧ g'.w.cell? a = some u
  β : g'.β = g.β
  ρ : g'.ρ = g.ρ

theorem V1.same {g g' : G} (s : Same g g') {pv : PV} {v : Value} (h : V1 g pv v) : V1 g' pv v := by
  obtain ⟨k, β, ρ⟩ := s
  cases pv with
  | ref i off => exact (show v = .pointer (some ⟨g'.β i, off, none⟩) by rw [β]; exact h)
  | mref i => exact (show v = .map (some (g'.β i)) by rw [β]; exact h)
  | cloB f l => exact (show v = .func (.func f) #[] (l.map fun i => Value.pointer (some ⟨g'.β i, 0, none⟩)).toArray by rw [β]; exact h)
  | row e => exact (show v = g'.ρ e by rw [ρ]; exact h)
  | rptr e sz i f =>
    show ∃ b n cap, g'.ρ e = _ ∧ _
    rw [ρ]; exact h
  | rsl e sz lo n =>
    show ∃ b m cap, g'.ρ e = _ ∧ _
    rw [ρ]; exact h
  | raw x => exact h
  | any => trivial
  | int k' n => exact RRel.mono h k
  | bool b => exact RRel.mono h k
  | str x => exact RRel.mono h k
  | agg l => exact RRel.mono h k
  | tup l => exact RRel.mono h k
  | sl l => exact RRel.mono h k
  | nils => exact RRel.mono h k
  | eptr l => exact RRel.mono h k
  | clo f l => exact RRel.mono h k
  | opt c x => exact RRel.mono h k
theorem V2.same {g g' : G} (s : Same g g') {pv : PV} {v : Value} (h : V2 g pv v) : V2 g' pv v := by
  have := V2.lift (f := id) (q := fun _ => true) (fun p v _ h2 => V1.same s h2) (all2_true pv) h
  rwa [map2_id] at this
theorem V3.same {g g' : G} (s : Same g g') {pv : PV} {v : Value} (h : V3 g pv v) : V3 g' pv v := by
  have := V3.lift (f := id) (q := fun _ => true) (fun p v _ h2 => V1.same s h2) (all3_true pv) h
  rwa [map3_id] at this
theorem V4.same {g g' : G} (s : Same g g') {pv : PV} {v : Value} (h : V4 g pv v) : V4 g' pv v := by
  have := V4.lift (f := id) (q := fun _ => true) (fun p v _ h2 => V1.same s h2) (all4_true pv) h
  rwa [map4_id] at this
end Go.Mh
