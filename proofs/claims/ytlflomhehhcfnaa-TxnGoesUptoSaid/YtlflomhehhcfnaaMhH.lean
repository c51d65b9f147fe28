/- Operations that make or write boxes; one operation of a region. -/
import Derived.Test.YtlflomhehhcfnaaMhG
namespace Go.Mh
open Go Go.RowKit
variable {P : Program} {E : TE} {c : Ctx} {s : S} {g : G} {a : Act}

/-! ### worlds -/
theorem heap_setCells_same (b : Nat) (T : TypeId) (fr : Nat × Nat) : ∀ (vs : List Value) (o : Nat) (w : World) (cs : List Value), w.heap[b]? = some (.cells cs.toArray T fr) → o + vs.length ≤ cs.length →
    (w.setCells b o vs).heap[b]? = some (.cells (cs.take o ++ vs ++ cs.drop (o + vs.length)).toArray T fr)
  | [], o, w, cs, h, _ => by simpa [World.setCells] using h
  | v :: r, o, w, cs, h, hl => by
    have h1 : (w.setCell ⟨b, o, none⟩ v).heap[b]? = some (.cells (cs.set o v).toArray T fr) := by
      simp [World.setCell, Array.getElem?_modify, h]
    have hl' : o + 1 + r.length ≤ (cs.set o v).length := by simp at hl ⊢; omega
    rw [World.setCells, heap_setCells_same b T fr r (o + 1) _ _ h1 hl']
    congr 3
    have hlt : o < cs.length := by simp at hl; omega
    rw [List.take_set, List.drop_set, if_pos (by omega)]
    have : (List.take (o + 1) cs).set o v = List.take o cs ++ [v] := by
      rw [List.take_succ_eq_append_getElem hlt, List.set_append, if_neg (by simp; omega)]
      simp [Nat.min_eq_left (Nat.le_of_lt hlt)]
    rw [this]
    simp only [List.append_assoc, List.singleton_append, List.length_cons]
    rw [show o + (r.length + 1) = o + 1 + r.length by omega]
theorem heap_setCells_other (b k : Nat) (hk : k ≠ b) : ∀ (vs : List Value) (o : Nat) (w : World), (w.setCells b o vs).heap[k]? = w.heap[k]?
  | [], _, _ => rfl
  | v :: r, o, w => by
    rw [World.setCells, heap_setCells_other b k hk r]
    exact Below.heap_setCell w _ _ _ hk
theorem size_setCells (b : Nat) : ∀ (vs : List Value) (o : Nat) (w : World), (w.setCells b o vs).heap.size = w.heap.size
  | [], _, _ => rfl
  | v :: r, o, w => by rw [World.setCells, size_setCells b r]; simp [World.setCell]
theorem below_setCells {B : Nat} {w0 : World} (b : Nat) (hb : B ≤ b) : ∀ (vs : List Value) (o : Nat) (w : World), Below B w0 w → Below B w0 (w.setCells b o vs)
  | [], _, _, h => h
  | v :: r, o, w, h => by
    rw [World.setCells]
    exact below_setCells b hb r (o + 1) _ (h.setCell hb v)

/-! ### what is not touched -/
theorem BoxAt.keep {g g' : G} {i : Nat} {x : Bx} (h : BoxAt g i x) (f : PV → PV) (hβ : g'.β i = g.β i) (hh : g'.w.heap[g.β i]? = g.w.heap[g.β i]?) (hmu : ∀ off, g'.mu ⟨g.β i, off, none⟩)
    (hv : ∀ p ∈ x.l, ∀ v, V1 g p v → V1 g' (f p) v) : BoxAt g' i ⟨x.T, x.l.map f⟩ := by
  obtain ⟨⟨cs, h2, h3, h4⟩, h5⟩ := h
  refine ⟨⟨cs, ?_, by simp [h3], fun j p u h6 h7 => ?_⟩, fun off => by rw [hβ]; exact hmu off⟩
  · rw [hβ, hh]; exact h2
  · rw [List.getElem?_map, Option.map_eq_some_iff] at h6
    obtain ⟨q, hq, rfl⟩ := h6
    exact hv q (List.mem_of_getElem? hq) u (h4 j q u hq h7)
theorem BoxAt.keep' {g g' : G} {i : Nat} {x : Bx} (h : BoxAt g i x) (hβ : g'.β i = g.β i) (hh : g'.w.heap[g.β i]? = g.w.heap[g.β i]?) (hmu : ∀ off, g'.mu ⟨g.β i, off, none⟩)
    (hv : ∀ p ∈ x.l, ∀ v, V1 g p v → V1 g' p v) : BoxAt g' i x := by
  have := h.keep id hβ hh hmu hv
  rwa [List.map_id] at this
theorem RowAt.keep {g g' : G} {e : Nat} {x : Rw} (h : RowAt g e x) (hρ : g'.ρ e = g.ρ e) (hh : ∀ k, (g.ρ e).ownBlock = some k → g'.w.heap[k]? = g.w.heap[k]?)
    (hmu : ∀ k off, (g.ρ e).ownBlock = some k → (g'.mu ⟨k, off, none⟩ ↔ g.mu ⟨k, off, none⟩)) (hk : ∀ a u, ¬ g.mu a → g.w.cell? a = some u → ¬ g'.mu a ∧ g'.w.cell? a = some u) : RowAt g' e x := by
  obtain ⟨cs, ⟨h5, h6⟩, h2, h3, h4⟩ := h
  refine ⟨cs, ?_, h2, fun i j y p v a1 a2 a3 => (h3 i j y p v a1 a2 a3).mono hk, fun k hb => ?_⟩
  · rw [hρ]
    refine ⟨h5, ?_⟩
    rcases h6 with h6 | ⟨gg, cap, cur, e1, e2, e3, e4⟩
    · exact .inl h6
    · refine .inr ⟨gg, cap, cur, e1, e2, ?_, e4⟩
      rw [hh gg (by rw [e1]; rfl)]
      exact e3
  · rw [hρ] at hb
    exact ⟨fun off ho => (hmu k off hb).trans ((h4 k hb).1 off ho), fun off ho => (hmu k off hb).2 ((h4 k hb).2 off ho)⟩

theorem cell_same {w w' : World} (hw : ∀ k, k < w.heap.size → w'.heap[k]? = w.heap[k]?) (x : Addr) (u : Value) (hx : w.cell? x = some u) : w'.cell? x = some u := by
  rw [World.cell?_of_block (hw x.block (World.block_lt_of_cell? w x hx))]
  exact hx

theorem Hold.box_lt {b : List (Nat × Bx)} {r : List (Nat × Rw)} (hR : Hold g b r) {i : Nat} {x : Bx} (hx : lk i b = some x) : g.β i < g.w.heap.size := by
  obtain ⟨⟨_, h2, _⟩, _⟩ := hR.boxes i x hx
  exact (Array.getElem?_eq_some_iff.1 h2).1

/-- A state whose world has moved, all its blocks being as they were. -/
theorem Hold.world {b : List (Nat × Bx)} {r : List (Nat × Rw)} (h : Hold g b r) {g' : G} (hw : ∀ k, k < g.w.heap.size → g'.w.heap[k]? = g.w.heap[k]?)
    (hmu : g'.mu = g.mu) (hβ : g'.β = g.β) (hρ : g'.ρ = g.ρ) : Hold g' b r := by
  have hs' : Same g g' := ⟨fun x u h1 h2 => ⟨by rw [hmu]; exact h1, cell_same hw x u h2⟩, hβ, hρ⟩
  refine ⟨fun id x hx => ?_, ?_, fun e x hx => ?_, ?_, ?_⟩
  · exact (h.boxes id x hx).keep' (by rw [hβ]) (hw _ (h.box_lt hx)) (fun off => by rw [hmu]; exact (h.boxes id x hx).2 off) (fun p _ v hv => hv.same hs')
  · rw [hβ]; exact h.apart
  · exact (h.rows e x hx).keep (by rw [hρ]) (fun k hk => hw _ (h.row_lt hx hk)) (fun k off _ => by rw [hmu]) hs'.keep
  · rw [hβ, hρ]; exact h.rbox
  · rw [hρ]; exact h.rrow

theorem Rel.world (h : Rel c s g a) {g' : G} (hw : ∀ k, k < g.w.heap.size → g'.w.heap[k]? = g.w.heap[k]?) (hs : g.w.heap.size ≤ g'.w.heap.size)
    (hmu : g'.mu = g.mu) (hβ : g'.β = g.β) (hρ : g'.ρ = g.ρ) (hb : Blw c.own c.w0 g'.w) : Rel c s g' a := by
  have hs' : Same g g' := ⟨fun x u h1 h2 => ⟨by rw [hmu]; exact h1, cell_same hw x u h2⟩, hβ, hρ⟩
  exact { (h.toHold.world hw hmu hβ hρ) with
    defers := h.defers, size := h.size, tmps := fun t pv ht => (h.tmps t pv ht).same hs', bmine := by rw [hβ]; exact h.bmine, rmine := by rw [hρ]; exact h.rmine, below := hb
    base := by rw [hmu]; exact h.base, lim := by rw [hmu]; exact fun x hx => Nat.lt_of_lt_of_le (h.lim x hx) hs, rho := by rw [hρ]; exact h.rho, fixed := by rw [hβ]; exact h.fixed }

theorem Rel.drew (h : Rel c s g a) (n : Nat) : Rel c s { g with w := g.w.drewN n } a :=
  h.world (g' := { g with w := g.w.drewN n }) (fun _ _ => rfl) (Nat.le_refl _) rfl rfl rfl ⟨h.below.os, h.below.tape, h.below.output, h.below.size, h.below.block⟩

/-! ### a new box -/
def freeId (s : S) (id : Nat) : Bool := decide (id < 100000) && (lk id s.b).isNone && s.t.all (fun p => n4 id p.2) && s.b.all (fun p => p.2.l.all (n1 id))

theorem lk_all {α : Type} {f : Nat × α → Bool} : ∀ {l : List (Nat × α)}, l.all f = true → ∀ k v, lk k l = some v → f (k, v) = true
  | [], _, k, v, h => by cases h
  | p :: l, h, k, v, hl => by
    simp only [List.all_cons, Bool.and_eq_true] at h
    unfold lk at hl
    split at hl
    · rename_i e; cases hl; subst e; exact h.1
    · exact lk_all h.2 k v hl

def addBox (g : G) (id : Nat) (T : TypeId) (cs : List Value) : G :=
  { w := g.w.alloc (.cells cs.toArray T), mu := fun x => g.mu x ∨ x.block = g.w.heap.size, β := fun i => if i = id then g.w.heap.size else g.β i, ρ := g.ρ }

theorem addBox_step (id : Nat) (T : TypeId) (cs : List Value) : Step g (addBox g id T cs) id where
  keep := fun x u h1 h2 => by
    have hlt := World.block_lt_of_cell? g.w x h2
    refine ⟨fun h => ?_, ?_⟩
    · rcases h with h | h
      · exact h1 h
      · rw [h] at hlt; exact Nat.lt_irrefl _ hlt
    · show (g.w.alloc _).cell? x = some u
      rw [World.cell?_alloc_lt _ _ _ hlt]; exact h2
  β := fun i hi => if_neg hi
  ρ := rfl

theorem Rel.newBox (hR : Rel c s g a) {id : Nat} (hf : freeId s id = true) (T : TypeId) {l : List PV} {cs : List Value} (hl : cs.length = l.length)
    (hv : ∀ (i : Nat) p v, l[i]? = some p → cs[i]? = some v → V1 g p v) (hn : l.all (n1 id) = true) :
    Rel c { s with b := (id, ⟨T, l⟩) :: s.b } (addBox g id T cs) a := by
  have hst := addBox_step (g := g) id T cs
  simp only [freeId, Bool.and_eq_true] at hf
  obtain ⟨⟨⟨hf0, hf1⟩, hf2⟩, hf3⟩ := hf
  have hlim : ∀ i x, lk i s.b = some x → g.β i < g.w.heap.size := fun i x hx => hR.toHold.box_lt hx
  have hid : ∀ i x, lk i s.b = some x → i ≠ id := fun i x hx e => by
    subst e; rw [hx] at hf1; cases hf1
  have hrlim : ∀ e x k, lk e s.r = some x → (g.ρ e).ownBlock = some k → k < g.w.heap.size := fun e x k hx hk => hR.toHold.row_lt hx hk
  refine { hR with tmps := fun t pv ht => (hR.tmps t pv ht).step hst (lk_all hf2 t pv ht), boxes := fun i x hx => ?_, apart := fun i j x y hx hy hij => ?_, rows := fun e x hx => ?_, rbox := fun e x i y hx hy => ?_, rrow := hR.rrow, bmine := fun i x hx => ?_, rmine := hR.rmine, below := hR.below.alloc _, base := fun x hx => .inl (hR.base x hx), lim := fun x hx => ?_, rho := hR.rho, fixed := fun i hi => (if_neg (by have := of_decide_eq_true hf0; omega)).trans (hR.fixed i hi) }
  · simp only [lk] at hx
    split at hx
    · rename_i e
      cases hx
      subst e
      refine ⟨⟨cs, ?_, hl, fun k p v h1 h2 => (hv k p v h1 h2).step hst (List.all_eq_true.1 hn p (List.mem_of_getElem? h1))⟩, fun off => .inr ?_⟩
      · show (g.w.alloc _).heap[(if i = i then g.w.heap.size else g.β i)]? = _
        rw [if_pos rfl]; exact Go.heap_alloc_new _ _
      · show (if i = i then g.w.heap.size else g.β i) = _; rw [if_pos rfl]
    · have hb : (addBox g id T cs).β i = g.β i := if_neg (hid i x hx)
      have hall : x.l.all (n1 id) = true := lk_all hf3 i x hx
      exact (hR.boxes i x hx).keep' hb (Go.heap_alloc_old _ _ _ (hlim i x hx)) (fun off => .inl ((hR.boxes i x hx).2 off)) (fun p hp v hv => hv.step hst (List.all_eq_true.1 hall p hp))
  · simp only [lk] at hx hy
    show (if i = id then g.w.heap.size else g.β i) ≠ (if j = id then g.w.heap.size else g.β j)
    split at hx <;> split at hy
    · rename_i e1 e2; exact absurd (e1.trans e2.symm) hij
    · rename_i e1 e2
      rw [if_pos e1, if_neg (hid j y hy)]
      exact fun e => by have := hlim j y hy; omega
    · rename_i e1 e2
      rw [if_neg (hid i x hx), if_pos e2]
      exact fun e => by have := hlim i x hx; omega
    · rw [if_neg (hid i x hx), if_neg (hid j y hy)]
      exact hR.apart i j x y hx hy hij
  · refine (hR.rows e x hx).keep rfl (fun k hk => Go.heap_alloc_old _ _ _ (hrlim e x k hx hk)) (fun k off hk => ⟨fun h => ?_, .inl⟩) hst.keep
    rcases h with h | h
    · exact h
    · have := hrlim e x k hx hk
      simp only at h
      omega
  · simp only [lk] at hy
    show (g.ρ e).ownBlock ≠ some (if i = id then g.w.heap.size else g.β i)
    split at hy
    · rename_i e1
      rw [if_pos e1]
      exact fun h => by have := hrlim e x _ hx h; omega
    · rw [if_neg (hid i y hy)]
      exact hR.rbox e x i y hx hy
  · simp only [lk] at hx
    show c.mine (if i = id then g.w.heap.size else g.β i)
    split at hx
    · rename_i e1; rw [if_pos e1]; exact .inl hR.below.size
    · rw [if_neg (hid i x hx)]; exact hR.bmine i x hx
  · show x.block < (g.w.heap.push _).size
    rw [Array.size_push]
    rcases hx with hx | hx
    · exact Nat.lt_succ_of_lt (hR.lim x hx)
    · omega

/-! ### a store into a box -/
def putCells (l : List PV) (off : Nat) (n : List PV) : List PV := l.take off ++ n ++ l.drop (off + n.length)

theorem Rel.storeBox (hR : Rel c s g a) {id off : Nat} {x : Bx} (hx : lk id s.b = some x) {n : List PV} {vs : List Value} (hl : vs.length = n.length)
    (hv : ∀ (i : Nat) p v, n[i]? = some p → vs[i]? = some v → V1 g p v) (hb : off + n.length ≤ x.l.length) :
    Rel c { s with b := (id, ⟨x.T, putCells x.l off n⟩) :: s.b } { g with w := g.w.setCells (g.β id) off vs } a := by
  obtain ⟨⟨cs, hh, hcl, hcv⟩, hmu⟩ := hR.boxes id x hx
  have hs : Same g { g with w := g.w.setCells (g.β id) off vs } := ⟨fun y u h1 h2 => ⟨h1, by
    show (g.w.setCells _ _ _).cell? y = some u
    rw [World.cell?_setCells_out]
    · exact h2
    · intro e1 e2
      have : y = ⟨g.β id, y.off, none⟩ := by cases y; simp at e1 e2; simp [e1, e2]
      rw [this] at h1
      exact absurd (hmu y.off) h1⟩, rfl, rfl⟩
  have hheap : ∀ k, k ≠ g.β id → (g.w.setCells (g.β id) off vs).heap[k]? = g.w.heap[k]? := fun k hk => heap_setCells_other _ k hk _ _ _
  have hmine := hR.bmine id x hx
  refine { hR with tmps := fun t pv ht => (hR.tmps t pv ht).same hs, boxes := fun i y hy => ?_, apart := fun i j y z hy hz hij => ?_, rows := fun e y hy => ?_, rbox := fun e y i z hy hz => ?_, bmine := fun i y hy => ?_, below := Blw.setCells hmine _ _ _ hR.below, lim := fun y hy => by rw [size_setCells]; exact hR.lim y hy }
  · simp only [lk] at hy
    split at hy
    · rename_i e
      cases hy
      subst e
      refine ⟨⟨cs.take off ++ vs ++ cs.drop (off + vs.length), heap_setCells_same _ _ _ vs off g.w cs hh (by omega), ?_, fun k p v h1 h2 => ?_⟩, hmu⟩
      · simp [putCells]; omega
      · simp only [putCells] at h1
        simp only [List.getElem?_append, List.getElem?_take, List.getElem?_drop, List.length_append, List.length_take, hl, hcl] at h1 h2
        have e2 : min off x.l.length = off := by omega
        rw [e2] at h1 h2
        refine V1.same hs ?_
        by_cases hk : k < off
        · rw [if_pos (by omega), if_pos hk, if_pos hk] at h1 h2
          exact hcv k p v h1 h2
        · by_cases hk2 : k < off + n.length
          · rw [if_pos hk2, if_neg hk] at h1 h2
            exact hv _ p v h1 h2
          · rw [if_neg hk2] at h1 h2
            exact hcv _ p v h1 h2
    · rename_i e
      exact (hR.boxes i y hy).keep' rfl (hheap _ (hR.apart i id y x hy hx e)) (hR.boxes i y hy).2 (fun p _ v hv => hv.same hs)
  · simp only [lk] at hy hz
    have k1 : ∃ y', lk i s.b = some y' := by split at hy; · rename_i e; subst e; exact ⟨_, hx⟩
                                             · exact ⟨_, hy⟩
    have k2 : ∃ z', lk j s.b = some z' := by split at hz; · rename_i e; subst e; exact ⟨_, hx⟩
                                             · exact ⟨_, hz⟩
    obtain ⟨y', hy'⟩ := k1
    obtain ⟨z', hz'⟩ := k2
    exact hR.apart i j y' z' hy' hz' hij
  · exact (hR.rows e y hy).keep rfl (fun k hk => hheap k (fun h => hR.rbox e y id x hy hx (by rw [hk, h]))) (fun _ _ _ => Iff.rfl) hs.keep
  · simp only [lk] at hz
    have k2 : ∃ z', lk i s.b = some z' := by split at hz; · rename_i e; subst e; exact ⟨_, hx⟩
                                             · exact ⟨_, hz⟩
    obtain ⟨z', hz'⟩ := k2
    exact hR.rbox e y i z' hy hz'
  · simp only [lk] at hy
    split at hy
    · rename_i e; subst e; exact hmine
    · exact hR.bmine i y hy

/-! ### rows that are written no more -/
def Rw.fz (ids : List Nat) (p : Nat × Rw) : Nat × Rw := (p.1, { p.2 with ex := p.2.ex && !(ids.contains p.1) })
def S.fz (s : S) (ids : List Nat) : S := { s with r := s.r.map (Rw.fz ids) }
theorem lk_fz {ids : List Nat} {e : Nat} {y : Rw} : ∀ {l : List (Nat × Rw)}, lk e (l.map (Rw.fz ids)) = some y → ∃ x, lk e l = some x ∧ y = { x with ex := x.ex && !(ids.contains e) }
  | [], h => by cases h
  | p :: l, h => by
    simp only [List.map_cons, lk, Rw.fz] at h
    unfold lk
    split at h
    · rename_i e'
      cases h
      rw [if_pos e']
      subst e'
      exact ⟨_, rfl, rfl⟩
    · rename_i e'
      rw [if_neg e']
      exact lk_fz h

def fzG (g : G) (r : List (Nat × Rw)) (ids : List Nat) : G :=
  { g with mu := fun x => g.mu x ∧ ¬ ∃ e y, lk e r = some y ∧ ids.contains e = true ∧ (g.ρ e).ownBlock = some x.block ∧ x.off < y.xs.length * y.sz }

theorem fzG_same (g : G) (r : List (Nat × Rw)) (ids : List Nat) : Same g (fzG g r ids) := ⟨fun _ _ h1 h2 => ⟨fun h => h1 h.1, h2⟩, rfl, rfl⟩

theorem Rel.fz (hR : Rel c s g a) (ids : List Nat) : Rel c (s.fz ids) (fzG g s.r ids) a := by
  have hs := fzG_same g s.r ids
  refine { defers := hR.defers, size := hR.size, tmps := fun t pv ht => (hR.tmps t pv ht).same hs, boxes := fun i x hx => ?_, apart := hR.apart, rows := fun e y hy => ?_, rbox := fun e y i z hy hz => ?_, rrow := fun e y e' y' k hy hy' => ?_, bmine := hR.bmine, rmine := fun e y k hy => ?_, below := hR.below, base := fun x hx => ?_, lim := fun x hx => hR.lim x hx.1, rho := hR.rho, fixed := hR.fixed }
  · refine (hR.boxes i x hx).keep' rfl rfl (fun off => ⟨(hR.boxes i x hx).2 off, fun ⟨e, y, h1, _, h3, _⟩ => hR.rbox e y i x h1 hx h3⟩) (fun p _ v hv => hv.same hs)
  · obtain ⟨x, hx, rfl⟩ := lk_fz hy
    obtain ⟨cs, h1, h2, h3, h4⟩ := hR.rows e x hx
    refine ⟨cs, h1, h2, fun i j y p v a1 a2 a3 => (h3 i j y p v a1 a2 a3).mono hs.keep, fun k hb => ⟨fun off ho => ?_, fun off ho => ⟨(h4 k hb).2 off ho, ?_⟩⟩⟩
    · by_cases hc : ids.contains e = true
      · simp only [hc, Bool.not_true, Bool.and_false]
        exact ⟨fun h => absurd ⟨e, x, hx, hc, hb, ho⟩ h.2, fun h => by cases h⟩
      · have hc : ids.contains e = false := by simpa using hc
        simp only [hc, Bool.not_false, Bool.and_true]
        refine ⟨fun h => ((h4 k hb).1 off ho).1 h.1, fun h => ⟨((h4 k hb).1 off ho).2 h, fun ⟨e', y, k1, k2, k3, _⟩ => ?_⟩⟩
        by_cases he : e' = e
        · subst he; rw [hc] at k2; cases k2
        · exact hR.rrow e x e' y k hx k1 (fun h => he h.symm) hb k3
    · intro ⟨e', y, k1, k2, k3, k4⟩
      by_cases he : e' = e
      · subst he; rw [hx] at k1; cases k1; simp only at k4 ho; omega
      · exact hR.rrow e x e' y k hx k1 (fun h => he h.symm) hb k3
  · obtain ⟨x, hx, rfl⟩ := lk_fz hy
    exact hR.rbox e x i z hx hz
  · obtain ⟨x, hx, rfl⟩ := lk_fz hy
    obtain ⟨x', hx', rfl⟩ := lk_fz hy'
    exact hR.rrow e x e' x' k hx hx'
  · obtain ⟨x, hx, rfl⟩ := lk_fz hy
    exact hR.rmine e x k hx
  · refine ⟨hR.base x hx, fun ⟨e, y, h1, _, h3, _⟩ => ?_⟩
    have hm := hR.rmine e y _ h1 h3
    have hl := c.low x hx
    rcases hm with hm | hm
    · omega
    · exact hl.2 hm

/-! ### an element of an own row is written -/
theorem Rel.storeRow (hR : Rel c s g a) {e i f : Nat} {x : Rw} (hx : lk e s.r = some x) (hex : x.ex = true) {b n cap : Nat} (hb : g.ρ e = .slice (some ⟨b, 0, none⟩) n cap) {y z : PV} (hy : x.xs[i]? = some y)
    {l : List PV} {vs : List Value} (hl : vs.length = l.length) (hv : ∀ (i : Nat) p v, l[i]? = some p → vs[i]? = some v → RRel g.w g.mu p v)
    (hz : z.cells = putCells y.cells f l) (hf : f + l.length ≤ x.sz) :
    Rel c { s with r := (e, { x with xs := x.xs.set i z }) :: s.r } { g with w := g.w.setCells b (i * x.sz + f) vs } a := by
  obtain ⟨cs, ⟨hlen, hown⟩, hsz, hcs, hmu⟩ := hR.rows e x hx
  have hi : i < x.xs.length := (List.getElem?_eq_some_iff.1 hy).1
  have hmul : (i + 1) * x.sz ≤ x.xs.length * x.sz := Nat.mul_le_mul_right _ hi
  rw [Nat.add_mul, Nat.one_mul] at hmul
  have hyl : y.cells.length = x.sz := hsz y (List.mem_of_getElem? hy)
  have hbk : (g.ρ e).ownBlock = some b := by rw [hb]; rfl
  have hmb := hmu b hbk
  rcases hown with ⟨h0, _⟩ | ⟨gg, cap', cur, hval, hbase, hheap, hn, hcap, hcur, htake⟩
  · rw [h0] at hb; cases hb
  rw [hval] at hb
  cases hb
  have hs : Same g { g with w := g.w.setCells b (i * x.sz + f) vs } := ⟨fun q u h1 h2 => ⟨h1, by
    show (g.w.setCells _ _ _).cell? q = some u
    rw [World.cell?_setCells_out]
    · exact h2
    · intro e1 e2
      have hq : q = ⟨b, q.off, none⟩ := by cases q; simp at e1 e2; simp [e1, e2]
      rcases Nat.lt_or_ge q.off (i * x.sz + f) with h | h
      · exact .inl h
      · refine .inr (Nat.le_of_not_lt fun h' => ?_)
        rw [hq] at h1
        exact h1 ((hmb.1 q.off (by omega)).2 hex)⟩, rfl, rfl⟩
  have hheap' : ∀ k, k ≠ b → (g.w.setCells b (i * x.sz + f) vs).heap[k]? = g.w.heap[k]? := fun k hk => heap_setCells_other _ k hk _ _ _
  have hcurl : cur.toList.length = cap * x.sz := by simpa using hcur
  have hncap : x.xs.length * x.sz ≤ cap * x.sz := Nat.mul_le_mul_right _ hn
  have hnew := heap_setCells_same b x.T (0, 0) vs (i * x.sz + f) g.w cur.toList (by simpa using hheap) (by rw [hcurl, hl]; omega)
  have hbox : ∀ k, k ≠ e → ∀ y, lk k ((e, ({ x with xs := x.xs.set i z } : Rw)) :: s.r) = some y → lk k s.r = some y := fun k hk y h => by
    unfold lk at h
    rw [if_neg hk] at h
    exact h
  have hrow : ∀ k y, lk k ((e, ({ x with xs := x.xs.set i z } : Rw)) :: s.r) = some y → ∃ y', lk k s.r = some y' := fun k y h => by
    by_cases hk : k = e
    · subst hk; exact ⟨x, hx⟩
    · exact ⟨y, hbox k hk y h⟩
  refine { hR with tmps := fun t pv ht => (hR.tmps t pv ht).same hs, boxes := fun j q hq => ?_, rows := fun k q hq => ?_, rbox := fun k q j u hq hu => ?_, rrow := fun k q k' q' m hq hq' => ?_, rmine := fun k q m hq => ?_, below := Blw.setCells (hR.rmine e x b hx hbk) _ _ _ hR.below, lim := fun q hq => by rw [size_setCells]; exact hR.lim q hq }
  · exact (hR.boxes j q hq).keep' rfl (hheap' _ (fun h => hR.rbox e x j q hx hq (by rw [hbk, h]))) (hR.boxes j q hq).2 (fun p _ v hv => hv.same hs)
  · by_cases hk : k = e
    · subst hk
      simp only [lk, if_true, Option.some.injEq] at hq
      subst hq
      have hset : ∀ j : Nat, j < x.xs.length * x.sz → (cur.toList.take (i * x.sz + f) ++ vs ++ cur.toList.drop (i * x.sz + f + vs.length))[j]? = if j < i * x.sz + f then cs[j]? else if j < i * x.sz + f + vs.length then vs[j - (i * x.sz + f)]? else cs[j]? := by
        intro j hj
        have hct : ∀ j, j < x.xs.length * x.sz → cur.toList[j]? = cs[j]? := fun j hj => by rw [← htake, List.getElem?_take_of_lt hj]
        rw [← hct j hj]
        simp only [List.getElem?_append, List.getElem?_take, List.getElem?_drop, List.length_append, List.length_take, hcurl]
        have e2 : min (i * x.sz + f) (cap * x.sz) = i * x.sz + f := by omega
        rw [e2]
        by_cases h1 : j < i * x.sz + f
        · rw [if_pos (by omega), if_pos h1, if_pos h1, if_pos h1]
        · by_cases h2 : j < i * x.sz + f + vs.length
          · rw [if_pos h2, if_neg h1, if_neg h1, if_pos h2]
          · rw [if_neg h2, if_neg h1, if_neg h2]
            congr 1
            omega
      have hfl : (cur.toList.take (i * x.sz + f) ++ vs ++ cur.toList.drop (i * x.sz + f + vs.length)).length = cap * x.sz := by
        simp only [List.length_append, List.length_take, List.length_drop, hcurl]; omega
      refine ⟨(cur.toList.take (i * x.sz + f) ++ vs ++ cur.toList.drop (i * x.sz + f + vs.length)).take (x.xs.length * x.sz), ⟨?_, .inr ⟨b, cap, _, ?_, hbase, hnew, ?_, hcap, ?_, ?_⟩⟩, fun q hq => ?_, fun j m q p u a1 a2 a3 => ?_, fun m hm => ?_⟩
      · simp only [List.length_take, hfl, List.length_set]; omega
      · rw [List.length_set]; exact hval
      · rw [List.length_set]; exact hn
      · simp only [List.size_toArray]; exact hfl
      · rw [List.length_set]
      · rcases List.mem_or_eq_of_mem_set hq with h | h
        · exact hsz q h
        · subst h
          show q.cells.length = x.sz
          rw [hz]
          simp only [putCells, List.length_append, List.length_take, List.length_drop, hyl]; omega
      · refine RRel.mono ?_ hs.keep
        have a1 : (x.xs.set i z)[j]? = some q := a1
        have hj : j < x.xs.length := by have := (List.getElem?_eq_some_iff.1 a1).1; simpa using this
        have hqz : q.cells.length = x.sz := by
          rcases List.mem_or_eq_of_mem_set (List.mem_of_getElem? a1) with h | h
          · exact hsz q h
          · subst h
            rw [hz]
            simp only [putCells, List.length_append, List.length_take, List.length_drop, hyl]; omega
        have hm : m < x.sz := by have := (List.getElem?_eq_some_iff.1 a2).1; rw [hqz] at this; exact this
        have hjm : (j + 1) * x.sz ≤ x.xs.length * x.sz := Nat.mul_le_mul_right _ hj
        rw [Nat.add_mul, Nat.one_mul] at hjm
        rw [List.getElem?_take_of_lt (by show j * x.sz + m < x.xs.length * x.sz; omega), hset (j * x.sz + m) (by omega)] at a3
        by_cases hji : j = i
        · subst hji
          rw [List.getElem?_set_self hi] at a1
          cases a1
          rw [hz] at a2
          simp only [putCells, List.getElem?_append, List.getElem?_take, List.getElem?_drop, List.length_append, List.length_take, hyl] at a2
          have e2 : min f x.sz = f := by omega
          rw [e2] at a2
          by_cases h1 : m < f
          · rw [if_pos (by omega), if_pos h1, if_pos h1] at a2
            rw [if_pos (by omega)] at a3
            exact hcs j m y p u hy a2 a3
          · by_cases h2 : m < f + l.length
            · rw [if_pos h2, if_neg h1] at a2
              rw [if_neg (by omega), if_pos (by omega)] at a3
              refine hv (m - f) p u a2 ?_
              rw [← a3]; congr 1; omega
            · rw [if_neg h2] at a2
              rw [if_neg (by omega), if_neg (by omega)] at a3
              refine hcs j m y p u hy ?_ a3
              rw [← a2]; congr 1; omega
        · rw [List.getElem?_set_ne (fun h => hji h.symm)] at a1
          have hne : j * x.sz + m < i * x.sz ∨ (i + 1) * x.sz ≤ j * x.sz + m := by
            rcases Nat.lt_or_ge j i with h | h
            · left
              have : (j + 1) * x.sz ≤ i * x.sz := Nat.mul_le_mul_right _ h
              rw [Nat.add_mul, Nat.one_mul] at this
              omega
            · right
              have : (i + 1) * x.sz ≤ j * x.sz := Nat.mul_le_mul_right _ (by omega)
              omega
          rw [Nat.add_mul, Nat.one_mul] at hne
          refine hcs j m q p u a1 a2 ?_
          rw [← a3]
          rcases hne with h | h
          · rw [if_pos (by omega)]
          · rw [if_neg (by omega), if_neg (by omega)]
      · rw [List.length_set]
        exact hmu m hm
    · exact (hR.rows k q (hbox k hk q hq)).keep rfl (fun m hm => hheap' m (fun h => hR.rrow k q e x b (hbox k hk q hq) hx hk (by rw [hm, h]) hbk)) (fun _ _ _ => Iff.rfl) hs.keep
  · obtain ⟨q', hq'⟩ := hrow k q hq
    exact hR.rbox k q' j u hq' hu
  · obtain ⟨y1, h1⟩ := hrow k q hq
    obtain ⟨y2, h2⟩ := hrow k' q' hq'
    exact hR.rrow k y1 k' y2 m h1 h2
  · obtain ⟨y1, h1⟩ := hrow k q hq
    exact hR.rmine k y1 m h1
end Go.Mh
