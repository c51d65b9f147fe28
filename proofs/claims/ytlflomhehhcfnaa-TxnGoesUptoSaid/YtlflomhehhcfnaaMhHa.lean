/- append onto an own row. -/
import Derived.Test.YtlflomhehhcfnaaMhH
import Derived.Deep.AppendSrc
namespace Go.Mh
open Go Go.RowKit
variable {P : Program} {E : TE} {c : Ctx} {s : S} {g : G} {a : Act}

structure Grew (w w' : World) (v v' : Value) (n sz : Nat) : Prop where
  os : w'.os = w.os
  tape : w'.tape = w.tape
  output : w'.output = w.output
  size : w.heap.size ≤ w'.heap.size
  block : ∀ k, k < w.heap.size → v.ownBlock ≠ some k → w'.heap[k]? = w.heap[k]?
  cell : ∀ x u, w.cell? x = some u → (v.ownBlock = some x.block → x.off < n * sz) → w'.cell? x = some u
  at_ : v'.ownBlock = v.ownBlock ∨ v'.ownBlock = some w.heap.size

theorem Grew.refl (w : World) (v : Value) (n sz : Nat) : Grew w w v v n sz := ⟨rfl, rfl, rfl, Nat.le_refl _, fun _ _ _ => rfl, fun _ _ h _ => h, .inl rfl⟩

theorem grew_new (w : World) (o : Obj) (v v' : Value) (n sz : Nat) (h : v'.ownBlock = some w.heap.size) : Grew w (w.drew.alloc o) v v' n sz :=
  ⟨rfl, rfl, rfl, by simp [World.alloc], fun k hk _ => Go.heap_alloc_old w.drew o k hk, fun x u hx _ => by
    have hlt := World.block_lt_of_cell? w x hx
    rw [World.cell?_of_block (Go.heap_alloc_old w.drew o x.block hlt)]
    exact hx, .inr h⟩

theorem append_row {T tx ty e sz : Nat} {tiT tie : TI} (hT : TyOK P T tiT) (hel : tiT.elem = some (e, sz)) (he : TyOK P e tie) {w : World} {base : Nat} {v x : Value} {n m : Nat} {xs news : List Value}
    (own : w.ownsRow base e sz v n xs) (src : Src P sz tx x m news w) (hb : (n + m) * tie.bytes ≤ 140737488355328) (hp : 0 < tie.bytes) (hbase : base ≤ w.heap.size) :
    ∃ v' w', (Builtin.append_ #[T, tx] ty #[v, x]).run P w = .ok v' w' ∧ w'.ownsRow base e sz v' (n + m) (xs ++ news) ∧ Grew w w' v v' n sz := by
  obtain ⟨hu, hsz⟩ := hT.elem e sz hel
  obtain ⟨i, z, hi, his, hib, hz, hzv⟩ := he.info
  have hisz : i.size = sz := by rw [hi] at hsz; simpa using hsz
  have hzc : z.cells.size = sz := by rw [he.zsz i z hi hz, ← his, hisz]
  have hmul : n + m ≤ (n + m) * tie.bytes := Nat.le_mul_of_pos_right _ hp
  have hmax : n + m ≤ maxLen := by simp only [maxLen]; omega
  have hlen : (xs ++ news).length = (n + m) * sz := by rw [List.length_append, own.1, src.newsLen, Nat.add_mul]
  rcases own.2 with ⟨rfl, rfl⟩ | ⟨gg, cap, cur, rfl, hbg, hg, hnc, hcm, hcs, htake⟩
  · have hx : xs = [] := List.eq_nil_of_length_eq_zero (by simpa using own.1)
    subst hx
    by_cases hm : m = 0
    · subst hm
      have hn : news = [] := List.eq_nil_of_length_eq_zero (by simpa using src.newsLen)
      subst hn
      refine ⟨.slice none 0 0, w, ?_, own, .refl _ _ _ _⟩
      rcases src.kind with ⟨e', hk⟩ | hk <;>
        simp [Builtin.append_, run_underlying hu, run_underlying hk, sizeOf, typeInfo, hi, src.len, hisz, src.cells]
    · have hr := run_append_grow_src (P := P) w T tx ty e i z hu hi hz none 0 0 [] (run_firstCells_none w.drew i.size 0 0 0) x m news (by rw [hisz]; exact src) (by omega) (by simp only [maxLen] at hmax; omega)
        (growslice_fits (by omega) (by rw [hib]; exact hb))
      refine ⟨_, _, hr, ⟨hlen, .inr ⟨w.heap.size, _, _, rfl, hbase, Go.heap_alloc_new w.drew _, grownCap_ge _ _ _ _, grownCap_le_maxLen _ _ _ _ hmax, ?_, ?_⟩⟩, grew_new _ _ _ _ _ _ rfl⟩
      · have := grownCap_ge w (0 + m) 0 e
        simp only [Array.size_append, List.size_toArray, size_zeroCells, hzc, hlen, ← Nat.add_mul]
        congr 1
        omega
      · simp only [Array.toList_append]
        rw [← hlen]
        exact List.take_left
  · by_cases hroom : n + m ≤ cap
    · have hcl : cur.toList.length = cap * sz := by simpa using hcs
      have hmsz : (n + m) * sz ≤ cap * sz := Nat.mul_le_mul_right _ hroom
      rw [Nat.add_mul] at hmsz
      have hr := run_append_room_src (P := P) w T tx ty e i hu hi gg 0 n cap x m news (by rw [hisz]; exact src) hroom (fun j hj => by
          rw [cell_of_row w gg _ cur e (0, 0) hg]
          rw [src.newsLen] at hj
          have : n * i.size + j < cur.size := by rw [hisz, hcs]; omega
          simp [this]) (fun j hj => by
          unfold World.frozen?
          rw [hg]
          simp)
      rw [hisz] at hr
      have hheap := heap_setCells_same gg e (0, 0) news (0 + n * sz) w cur.toList (by simpa using hg) (by rw [src.newsLen, hcl]; omega)
      refine ⟨_, _, hr, ⟨hlen, .inr ⟨gg, cap, _, rfl, hbg, hheap, hroom, hcm, ?_, ?_⟩⟩, ⟨?_, ?_, ?_, ?_, fun k _ hk => heap_setCells_other gg k (fun e => hk (by rw [e]; rfl)) _ _ _, fun y u hy hlt => ?_, .inl rfl⟩⟩
      · simp only [List.size_toArray, List.length_append, List.length_take, List.length_drop, hcl, src.newsLen]
        omega
      · simp only [Nat.zero_add, htake]
        rw [← hlen]
        exact List.take_left
      · exact (below_setCells (B := 0) (w0 := w) gg (Nat.zero_le _) news (0 + n * sz) w (Below.refl _ _)).os
      · exact (below_setCells (B := 0) (w0 := w) gg (Nat.zero_le _) news (0 + n * sz) w (Below.refl _ _)).tape
      · exact (below_setCells (B := 0) (w0 := w) gg (Nat.zero_le _) news (0 + n * sz) w (Below.refl _ _)).output
      · rw [size_setCells]; exact Nat.le_refl _
      · rw [World.cell?_setCells_out]
        · exact hy
        · intro e1 _
          have := hlt (by rw [e1]; rfl)
          left; omega
    · have holds : ∀ j u, xs[j]? = some u → w.cell? ((⟨gg, 0, none⟩ : Addr).add j) = some u := own.cells (g := gg) rfl
      have hr := run_append_grow_src (P := P) w T tx ty e i z hu hi hz (some ⟨gg, 0, none⟩) n cap xs (run_firstCells_some w.drew i.size n ⟨gg, 0, none⟩ n cap xs (by rw [hisz]; exact own.1) (by simpa using holds)) x m news (by rw [hisz]; exact src) (by omega) (by simp only [maxLen] at hmax; omega)
        (growslice_fits (by omega) (by rw [hib]; exact hb))
      refine ⟨_, _, hr, ⟨hlen, .inr ⟨w.heap.size, _, _, rfl, hbase, Go.heap_alloc_new w.drew _, grownCap_ge _ _ _ _, grownCap_le_maxLen _ _ _ _ hmax, ?_, ?_⟩⟩, grew_new _ _ _ _ _ _ rfl⟩
      · have := grownCap_ge w (n + m) cap e
        simp only [Array.size_append, List.size_toArray, size_zeroCells, hzc, hlen, ← Nat.add_mul]
        congr 1
        omega
      · simp only [Array.toList_append]
        rw [← hlen]
        exact List.take_left
theorem row_sl (hR : Rel c s g a) {e : Nat} {r : Rw} (hr : lk e s.r = some r) (hex : r.ex = false) : RRel g.w g.mu (.sl r.xs) (g.ρ e) := by
  obtain ⟨cs, ⟨hlen, hown⟩, hsz, hcs, hmu⟩ := hR.rows e r hr
  rcases hown with ⟨h0, h1⟩ | ⟨gg, cap, cur, hval, hbase, hheap, hn, hcap, hcur, htake⟩
  · rw [h0]
    have hx : r.xs = [] := List.eq_nil_of_length_eq_zero h1
    rw [hx]
    exact RRel.sl [] none 0 0 (fun _ _ => undef) (Nat.le_refl _) (Nat.zero_le _) (fun x h => by cases h) (fun h => absurd rfl h) (fun i j x pv h => by simp at h)
  · rw [hval]
    refine RRel.sl r.xs _ cap r.sz (fun i j => cs.getD (i * r.sz + j) undef) hn hcap hsz (fun _ => ⟨_, rfl, fun i j hi hj => ?_⟩) (fun i j x pv hx hp => ?_)
    · have hb : i * r.sz + j < r.xs.length * r.sz := by
        have : (i + 1) * r.sz ≤ r.xs.length * r.sz := Nat.mul_le_mul_right _ hi
        rw [Nat.add_mul] at this
        omega
      rw [Addr.add_mid, Nat.zero_add]
      refine ⟨fun h => Bool.noConfusion (hex.symm.trans (((hmu gg (by rw [hval]; rfl)).1 _ hb).1 h)), ?_⟩
      rw [cell_of_row g.w gg _ cur r.T (0, 0) hheap]
      have : cs[i * r.sz + j]? = cur[i * r.sz + j]? := by rw [← htake, List.getElem?_take_of_lt hb, Array.getElem?_toList]
      rw [← this]
      simp [hlen, hb]
    · have hi := (List.getElem?_eq_some_iff.1 hx).1
      have hj := (List.getElem?_eq_some_iff.1 hp).1
      rw [hsz x (List.mem_of_getElem? hx)] at hj
      have hb : i * r.sz + j < cs.length := by
        rw [hlen]
        have : (i + 1) * r.sz ≤ r.xs.length * r.sz := Nat.mul_le_mul_right _ hi
        rw [Nat.add_mul] at this
        omega
      exact hcs i j x pv _ hx hp (by simp [hb])


def dropK {α : Type} (k : Nat) : List (Nat × α) → List (Nat × α)
  | [] => []
  | p :: l => if p.1 = k then dropK k l else p :: dropK k l

theorem lk_dropK {α : Type} {k i : Nat} {v : α} : ∀ {l : List (Nat × α)}, lk i (dropK k l) = some v → i ≠ k ∧ lk i l = some v
  | [], h => by cases h
  | p :: l, h => by
    unfold dropK at h
    split at h
    · rename_i e
      obtain ⟨h1, h2⟩ := lk_dropK h
      refine ⟨h1, ?_⟩
      unfold lk
      rw [if_neg (by rw [e]; exact h1)]
      exact h2
    · rename_i e
      unfold lk at h ⊢
      split at h
      · rename_i e2; rw [if_pos e2]; exact ⟨by rw [e2]; exact e, h⟩
      · rename_i e2; rw [if_neg e2]; exact lk_dropK h
theorem lk_cons_dropK {α : Type} {k i : Nat} {x v : α} {l : List (Nat × α)} (h : lk i ((k, x) :: dropK k l) = some v) : lk i ((k, x) :: l) = some v := by
  unfold lk at h ⊢
  split at h
  · rename_i e; rw [if_pos e]; exact h
  · rename_i e; rw [if_neg e]; exact (lk_dropK h).2

/-! ### what an own row was is data from now on (or, where it may be written, is spoken of no more) -/
def dg1 (e : Nat) (ex : Bool) (xs : List PV) : PV → PV
  | .row e' => if e' = e then (if ex = true then .any else .sl xs) else .row e'
  | .rptr e' sz i f => if e' = e then .any else .rptr e' sz i f
  | .rsl e' sz lo n => if e' = e then .any else .rsl e' sz lo n
  | p => p
def dgT (e : Nat) (ex : Bool) (xs : List PV) (t : List (Nat × PV)) : List (Nat × PV) := t.map fun p => (p.1, map4 (dg1 e ex xs) p.2)
def dgB (e : Nat) (ex : Bool) (xs : List PV) (b : List (Nat × Bx)) : List (Nat × Bx) := b.map fun p => (p.1, ⟨p.2.T, p.2.l.map (dg1 e ex xs)⟩)

theorem lk_map {α β : Type} {f : α → β} {k : Nat} {v : β} : ∀ {l : List (Nat × α)}, lk k (l.map fun p => (p.1, f p.2)) = some v → ∃ u, lk k l = some u ∧ v = f u
  | [], h => by cases h
  | p :: l, h => by
    simp only [List.map_cons, lk] at h
    unfold lk
    split at h
    · rename_i e
      cases h
      rw [if_pos e]
      exact ⟨_, rfl, rfl⟩
    · rename_i e
      rw [if_neg e]
      exact lk_map h

/-- Moved by an append: only row e has turned. -/
structure StepR (g g' : G) (e : Nat) (ex : Bool) (xs : List PV) : Prop where
  keep : ∀ a u, ¬ g.mu a → g.w.cell? a = some u → ¬ g'.mu a ∧ g'.w.cell? a = some u
  β : g'.β = g.β
  ρ : ∀ k, k ≠ e → g'.ρ k = g.ρ k
  old : ex = false → RRel g.w g.mu (.sl xs) (g.ρ e)

theorem V1.stepR {g g' : G} {e : Nat} {ex : Bool} {xs : List PV} (s : StepR g g' e ex xs) {pv : PV} {v : Value} (h : V1 g pv v) : V1 g' (dg1 e ex xs pv) v := by
  cases pv with
  | row k =>
    have h : v = g.ρ k := h
    subst h
    show V1 g' (if k = e then (if ex = true then .any else .sl xs) else .row k) (g.ρ k)
    by_cases h : k = e
    · rw [if_pos h]
      by_cases hx : ex = true
      · rw [if_pos hx]; trivial
      · rw [if_neg hx]; subst h; exact V1.of ((s.old (by simpa using hx)).mono s.keep)
    · rw [if_neg h]; show g.ρ k = g'.ρ k; rw [s.ρ k h]
  | rptr k sz i f =>
    show V1 g' (if k = e then .any else .rptr k sz i f) v
    by_cases h' : k = e
    · rw [if_pos h']; trivial
    · rw [if_neg h']
      show ∃ b n cap, g'.ρ k = _ ∧ _
      rw [s.ρ k h']; exact h
  | rsl k sz lo n =>
    show V1 g' (if k = e then .any else .rsl k sz lo n) v
    by_cases h' : k = e
    · rw [if_pos h']; trivial
    · rw [if_neg h']
      show ∃ b m cap, g'.ρ k = _ ∧ _
      rw [s.ρ k h']; exact h
  | ref i off => exact (show v = .pointer (some ⟨g'.β i, off, none⟩) by rw [s.β]; exact h)
  | mref i => exact (show v = .map (some (g'.β i)) by rw [s.β]; exact h)
  | cloB f l => exact (show v = .func (.func f) #[] (l.map fun i => Value.pointer (some ⟨g'.β i, 0, none⟩)).toArray by rw [s.β]; exact h)
  | raw x => exact h
  | any => trivial
  | int k n => exact RRel.mono h s.keep
  | bool b => exact RRel.mono h s.keep
  | str x => exact RRel.mono h s.keep
  | agg l => exact RRel.mono h s.keep
  | tup l => exact RRel.mono h s.keep
  | sl l => exact RRel.mono h s.keep
  | nils => exact RRel.mono h s.keep
  | eptr l => exact RRel.mono h s.keep
  | clo f l => exact RRel.mono h s.keep
  | opt c x => exact RRel.mono h s.keep
theorem V4.stepR {g g' : G} {e : Nat} {ex : Bool} {xs : List PV} (s : StepR g g' e ex xs) {pv : PV} {v : Value} (h : V4 g pv v) : V4 g' (map4 (dg1 e ex xs) pv) v :=
  V4.lift (q := fun _ => true) (fun p v _ h2 => V1.stepR s h2) (all4_true pv) h

/-- The world behind an append, and what may be written from now on. -/
def rowG (g : G) (e : Nat) (w' : World) (v' : Value) (len : Nat) (ex : Bool) : G :=
  { w := w', mu := fun x => (g.mu x ∧ ¬ (ex = false ∧ v'.ownBlock = some x.block ∧ x.off < len)) ∨ (v'.ownBlock = some x.block ∧ (len ≤ x.off ∨ ex = true)), β := g.β, ρ := fun k => if k = e then v' else g.ρ k }

theorem spot_of_cell {w : World} {x : Addr} {u : Value} (h : w.cell? x = some u) : x = ⟨x.block, x.off, none⟩ := by
  cases x with
  | mk b o sp =>
    cases sp with
    | none => rfl
    | some k =>
      unfold World.cell? at h
      split at h
      · simp at h
      · cases h

theorem Rel.append (hR : Rel c s g a) {e : Nat} {r : Rw} (hr : lk e s.r = some r) {v' : Value} {w' : World} {ys : List PV} {cs news : List Value}
    (hcs : cs.length = r.xs.length * r.sz) (hxs : ∀ (i j : Nat) y p u, r.xs[i]? = some y → y.cells[j]? = some p → cs[i * r.sz + j]? = some u → RRel g.w g.mu p u)
    (hyz : ∀ y ∈ ys, y.cells.length = r.sz)
    (hys : ∀ (i j : Nat) y p u, ys[i]? = some y → y.cells[j]? = some p → news[i * r.sz + j]? = some u → RRel g.w g.mu p u)
    (hown : w'.ownsRow 0 r.T r.sz v' (r.xs ++ ys).length (cs ++ news)) (hG : Grew g.w w' (g.ρ e) v' r.xs.length r.sz) :
    Rel c { s with t := dgT e r.ex r.xs s.t, b := dgB e r.ex r.xs s.b, r := (e, { r with xs := r.xs ++ ys }) :: dropK e s.r } (rowG g e w' v' ((r.xs ++ ys).length * r.sz) r.ex) a := by
  have hxz : ∀ y ∈ r.xs, y.cells.length = r.sz := fun y hy => by
    obtain ⟨_, _, h, _⟩ := hR.rows e r hr
    exact h y hy
  -- the row's block: below what was, or new
  have hvb : ∀ k, v'.ownBlock = some k → (g.ρ e).ownBlock = some k ∨ k = g.w.heap.size := by
    intro k hk
    rcases hG.at_ with h | h
    · rw [hk] at h; exact .inl h.symm
    · rw [hk] at h; cases h; exact .inr rfl
  have hkb : ∀ k, v'.ownBlock = some k → k < w'.heap.size := by
    intro k hk
    rcases hown.2 with ⟨h1, _⟩ | ⟨gg, cap, cur, h1, h2, h3, _⟩
    · rw [h1] at hk; cases hk
    · rw [h1] at hk
      have : gg = k := by simpa [Value.ownBlock] using hk
      subst this
      exact (Array.getElem?_eq_some_iff.1 h3).1
  have hbox : ∀ i x, lk i s.b = some x → g.β i < g.w.heap.size ∧ v'.ownBlock ≠ some (g.β i) ∧ (g.ρ e).ownBlock ≠ some (g.β i) := by
    intro i x hx
    have hlt := hR.toHold.box_lt hx
    have hvn := hR.rbox e r i x hr hx
    refine ⟨hlt, fun h => ?_, hvn⟩
    rcases hvb _ h with h1 | h1
    · exact hvn h1
    · omega
  have hrow : ∀ k x b, k ≠ e → lk k s.r = some x → (g.ρ k).ownBlock = some b → b < g.w.heap.size ∧ v'.ownBlock ≠ some b ∧ (g.ρ e).ownBlock ≠ some b := by
    intro k x b hne hx hb
    have hlt := hR.toHold.row_lt hx hb
    have hvn := hR.rrow k x e r b hx hr hne hb
    refine ⟨hlt, fun h => ?_, hvn⟩
    rcases hvb _ h with h1 | h1
    · exact hvn h1
    · omega
  have hkeep : ∀ x u, ¬ g.mu x → g.w.cell? x = some u → ¬ (rowG g e w' v' ((r.xs ++ ys).length * r.sz) r.ex).mu x ∧ w'.cell? x = some u := by
    intro x u hx hc
    have hxe := spot_of_cell hc
    have hin : (g.ρ e).ownBlock = some x.block → x.off < r.xs.length * r.sz ∧ r.ex = false := by
      intro h
      obtain ⟨_, _, _, _, h6⟩ := hR.rows e r hr
      have h7 := h6 x.block h
      rcases Nat.lt_or_ge x.off (r.xs.length * r.sz) with h1 | h1
      · refine ⟨h1, ?_⟩
        cases hex : r.ex with
        | false => rfl
        | true =>
          have := (h7.1 x.off h1).2 hex
          rw [← hxe] at this
          exact absurd this hx
      · have := h7.2 x.off h1
        rw [← hxe] at this
        exact absurd this hx
    refine ⟨fun h => ?_, hG.cell x u hc (fun h => (hin h).1)⟩
    rcases h with ⟨h, _⟩ | ⟨h, h1⟩
    · exact hx h
    · rcases hvb _ h with h2 | h2
      · obtain ⟨h3, h4⟩ := hin h2
        rcases h1 with h1 | h1
        · rw [List.length_append, Nat.add_mul] at h1
          omega
        · rw [h4] at h1; cases h1
      · have := World.block_lt_of_cell? g.w x hc
        omega
  have hst : StepR g (rowG g e w' v' ((r.xs ++ ys).length * r.sz) r.ex) e r.ex r.xs := ⟨hkeep, rfl, fun k hk => if_neg hk, fun hex => row_sl hR hr hex⟩
  refine { defers := hR.defers, size := hR.size, tmps := fun t pv ht => ?_, boxes := fun i x hx => ?_, apart := fun i j x y hx hy hij => ?_, rows := fun k x hx => ?_, rbox := fun k x i y hx hy => ?_, rrow := fun k x k' x' b hx hx' hne hb => ?_, bmine := fun i x hx => ?_, rmine := fun k x b hx hb => ?_, below := ?_, base := fun x hx => ?_, lim := fun x hx => ?_, rho := fun k => ?_, fixed := hR.fixed }
  · obtain ⟨y, hy, rfl⟩ := lk_map (f := fun y : Bx => (⟨y.T, y.l.map (dg1 e r.ex r.xs)⟩ : Bx)) hx
    obtain ⟨hb1, hb2, hb3⟩ := hbox i y hy
    exact (hR.boxes i y hy).keep _ rfl (hG.block _ hb1 hb3) (fun off => .inl ⟨(hR.boxes i y hy).2 off, fun h => hb2 h.2.1⟩) (fun p _ v hv => V1.stepR hst hv)
  · obtain ⟨x', hx', _⟩ := lk_map (f := fun y : Bx => (⟨y.T, y.l.map (dg1 e r.ex r.xs)⟩ : Bx)) hx
    obtain ⟨y', hy', _⟩ := lk_map (f := fun y : Bx => (⟨y.T, y.l.map (dg1 e r.ex r.xs)⟩ : Bx)) hy
    exact hR.apart i j x' y' hx' hy' hij
  · unfold lk at hx
    split at hx
    · rename_i hk
      cases hx
      simp only at hk
      subst hk
      have hρ : (rowG g k w' v' ((r.xs ++ ys).length * r.sz) r.ex).ρ k = v' := if_pos rfl
      refine ⟨cs ++ news, by rw [hρ]; exact hown, fun y hy => ?_, fun i j y p u h1 h2 h3 => ?_, fun b hb => ?_⟩
      · rcases List.mem_append.1 hy with hy | hy
        · exact hxz y hy
        · exact hyz y hy
      · refine RRel.mono ?_ hkeep
        by_cases hi : i < r.xs.length
        · have h1 : (r.xs ++ ys)[i]? = some y := h1
          rw [List.getElem?_append_left hi] at h1
          have hj := (List.getElem?_eq_some_iff.1 h2).1
          rw [hxz y (List.mem_of_getElem? h1)] at hj
          have hb : i * r.sz + j < cs.length := by
            rw [hcs]
            have : (i + 1) * r.sz ≤ r.xs.length * r.sz := Nat.mul_le_mul_right _ hi
            rw [Nat.add_mul] at this
            omega
          rw [List.getElem?_append_left hb] at h3
          exact hxs i j y p u h1 h2 h3
        · have h1 : (r.xs ++ ys)[i]? = some y := h1
          have hi : r.xs.length ≤ i := by omega
          rw [List.getElem?_append_right hi] at h1
          have hle : r.xs.length * r.sz ≤ i * r.sz := Nat.mul_le_mul_right _ hi
          have hb : cs.length ≤ i * r.sz + j := by
            rw [hcs]
            omega
          rw [List.getElem?_append_right hb] at h3
          have he : i * r.sz + j - cs.length = (i - r.xs.length) * r.sz + j := by
            rw [hcs, Nat.sub_mul]
            omega
          rw [he] at h3
          exact hys _ j y p u h1 h2 h3
      · rw [hρ] at hb
        refine ⟨fun off ho => ⟨fun h => ?_, fun h => .inr ⟨hb, .inr h⟩⟩, fun off ho => .inr ⟨hb, .inl ho⟩⟩
        rcases h with ⟨_, h⟩ | ⟨_, h⟩
        · cases hex : r.ex with
          | true => rfl
          | false => exact absurd ⟨hex, hb, ho⟩ h
        · rcases h with h | h
          · simp only at h ho
            omega
          · exact h
    · rename_i hk
      simp only at hk
      obtain ⟨_, hx⟩ := lk_dropK hx
      have hρ : (rowG g e w' v' ((r.xs ++ ys).length * r.sz) r.ex).ρ k = g.ρ k := if_neg hk
      refine (hR.rows k x hx).keep hρ (fun b hb => ?_) (fun b off hb => ?_) hkeep
      · obtain ⟨hb1, _, hb3⟩ := hrow k x b hk hx hb
        exact hG.block b hb1 hb3
      · obtain ⟨hb1, hb2, hb3⟩ := hrow k x b hk hx hb
        refine ⟨fun h => ?_, fun h => .inl ⟨h, fun h => hb2 h.2.1⟩⟩
        rcases h with ⟨h, _⟩ | ⟨h, _⟩
        · exact h
        · exact absurd h hb2
  · obtain ⟨y', hy', _⟩ := lk_map (f := fun y : Bx => (⟨y.T, y.l.map (dg1 e r.ex r.xs)⟩ : Bx)) hy
    unfold lk at hx
    show (if k = e then v' else g.ρ k).ownBlock ≠ some (g.β i)
    split at hx
    · rename_i hk
      simp only at hk
      rw [if_pos hk]
      exact (hbox i y' hy').2.1
    · rename_i hk
      simp only at hk
      rw [if_neg hk]
      exact hR.rbox k x i y' (lk_dropK hx).2 hy'
  · have hb : (if k = e then v' else g.ρ k).ownBlock = some b := hb
    show (if k' = e then v' else g.ρ k').ownBlock ≠ some b
    unfold lk at hx hx'
    split at hx <;> split at hx'
    · rename_i h1 h2; simp only at h1 h2; exact absurd (h1.trans h2.symm) hne
    · rename_i h1 h2
      simp only at h1 h2
      rw [if_pos h1] at hb
      rw [if_neg h2]
      intro h
      exact (hrow k' x' b h2 (lk_dropK hx').2 h).2.1 hb
    · rename_i h1 h2
      simp only at h1 h2
      rw [if_neg h1] at hb
      rw [if_pos h2]
      exact (hrow k x b h1 (lk_dropK hx).2 hb).2.1
    · rename_i h1 h2
      simp only at h1 h2
      rw [if_neg h1] at hb
      rw [if_neg h2]
      exact hR.rrow k x k' x' b (lk_dropK hx).2 (lk_dropK hx').2 hne hb
  · obtain ⟨u, hu, rfl⟩ := lk_map (f := map4 (dg1 e r.ex r.xs)) ht
    exact V4.stepR hst (hR.tmps t u hu)
  · obtain ⟨y', hy', _⟩ := lk_map (f := fun y : Bx => (⟨y.T, y.l.map (dg1 e r.ex r.xs)⟩ : Bx)) hx
    exact hR.bmine i y' hy'
  · have hb : (if k = e then v' else g.ρ k).ownBlock = some b := hb
    unfold lk at hx
    split at hx
    · rename_i h1
      simp only at h1
      rw [if_pos h1] at hb
      rcases hvb b hb with h | h
      · exact hR.rmine e r b hr h
      · exact .inl (by rw [h]; exact hR.below.size)
    · rename_i h1
      simp only at h1
      rw [if_neg h1] at hb
      exact hR.rmine k x b (lk_dropK hx).2 hb
  · refine ⟨hG.os.trans hR.below.os, hG.tape.trans hR.below.tape, hG.output.trans hR.below.output, Nat.le_trans hR.below.size hG.size, fun k hk hn => ?_⟩
    have hlt : k < g.w.heap.size := Nat.lt_of_lt_of_le hk hR.below.size
    show w'.heap[k]? = _
    rw [hG.block k hlt (fun h => by
      rcases hR.rmine e r k hr h with h1 | h1
      · omega
      · exact hn h1)]
    exact hR.below.block k hk hn
  · refine .inl ⟨hR.base x hx, fun h => ?_⟩
    have h1 := c.low x hx
    have hs := hR.below.size
    rcases hvb _ h.2.1 with h2 | h2
    · rcases hR.rmine e r _ hr h2 with h3 | h3
      · omega
      · exact h1.2 h3
    · omega
  · show x.block < w'.heap.size
    rcases hx with ⟨h, _⟩ | ⟨h, _⟩
    · exact Nat.lt_of_lt_of_le (hR.lim x h) hG.size
    · exact hkb _ h
  · show (if k = e then v' else g.ρ k).oneCell' = true
    split
    · rcases hown.2 with ⟨h1, _⟩ | ⟨gg, cap, cur, h1, _⟩ <;> rw [h1] <;> rfl
    · exact hR.rho k
end Go.Mh
