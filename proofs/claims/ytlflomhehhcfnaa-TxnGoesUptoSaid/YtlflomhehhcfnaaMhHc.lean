/- What a slice literal and an append do to a state. -/
import Derived.Test.YtlflomhehhcfnaaMhHb
import Derived.Great.BuildSlice
namespace Go.Mh
open Go Go.RowKit
variable {P : Program} {E : TE} {c : Ctx} {s : S} {g : G} {a : Act}

theorem frzAll_sound (hR : Rel c s g a) : ∀ {l m : List (Nat × PV)} {vs : List (Nat × Value)}, frzAll s l = some m →
    (vs.length = l.length ∧ ∀ (i : Nat) p v, l[i]? = some p → vs[i]? = some v → p.1 = v.1 ∧ V3 g p.2 v.2) →
    vs.length = m.length ∧ ∀ (i : Nat) p v, m[i]? = some p → vs[i]? = some v → p.1 = v.1 ∧ RRel g.w g.mu p.2 v.2
  | [], m, vs, h, hv => by
    cases h
    exact ⟨hv.1, fun i p v h => by simp at h⟩
  | p :: l, m, vs, h, hv => by
    unfold frzAll at h
    split at h
    · rename_i q m' h1 h2
      cases h
      match vs, hv with
      | [], hv => simp at hv
      | v :: vs, hv =>
        have ih := frzAll_sound hR h2 (vs := vs) ⟨by simpa using hv.1, fun i p v a b => hv.2 (i + 1) p v (by simpa using a) (by simpa using b)⟩
        refine ⟨by simp [ih.1], fun i p' v' a b => ?_⟩
        cases i with
        | zero =>
          simp at a b
          subst a; subst b
          obtain ⟨e, hv3⟩ := hv.2 0 p v rfl rfl
          have hnt : ∀ l, p.2 ≠ .tup l := fun l e => by rw [e] at h1; cases h1
          exact ⟨e, frz_sound hR h1 (V2_of_V3 hnt hv3)⟩
        | succ i => exact ih.2 i p' v' (by simpa using a) (by simpa using b)
    · cases h

/-- A new block of cells that nobody writes. -/
theorem Rel.frozenBlock (hR : Rel c s g a) (T : TypeId) (cs : Array Value) : Rel c s { g with w := g.w.alloc (.cells cs T) } a :=
  hR.world (g' := { g with w := g.w.alloc (.cells cs T) }) (fun k hk => Go.heap_alloc_old _ _ k hk) (by show g.w.heap.size ≤ (g.w.heap.push _).size; simp) rfl rfl rfl (hR.below.alloc _)

theorem sl_of_block (hR : Rel c s g a) {T sz : Nat} {xs : List PV} {out : List Value} (hl : out.length = xs.length * sz) (hz : ∀ y ∈ xs, y.cells.length = sz)
    (hv : ∀ (i j : Nat) y p u, xs[i]? = some y → y.cells[j]? = some p → out[i * sz + j]? = some u → RRel g.w g.mu p u) (hm : xs.length ≤ maxLen) :
    RRel (g.w.alloc (.cells out.toArray T)) g.mu (.sl xs) (.slice (some ⟨g.w.heap.size, 0, none⟩) xs.length xs.length) := by
  have hkeep : ∀ x u, ¬ g.mu x → g.w.cell? x = some u → ¬ g.mu x ∧ (g.w.alloc (.cells out.toArray T)).cell? x = some u := fun x u h1 h2 =>
    ⟨h1, by rw [World.cell?_alloc_lt _ _ _ (World.block_lt_of_cell? g.w x h2)]; exact h2⟩
  have hb : ∀ i j, i < xs.length → j < sz → i * sz + j < out.length := by
    intro i j hi hj
    rw [hl]
    have : (i + 1) * sz ≤ xs.length * sz := Nat.mul_le_mul_right _ hi
    rw [Nat.add_mul] at this
    omega
  refine .sl xs _ xs.length sz (fun i j => out.getD (i * sz + j) undef) (Nat.le_refl _) hm hz (fun _ => ⟨_, rfl, fun i j hi hj => ?_⟩) (fun i j x p hx hp => ?_)
  · rw [Addr.add_mid, Nat.zero_add]
    refine ⟨fun h => ?_, ?_⟩
    · have := hR.lim _ h
      simp at this
    · rw [cell_of_row _ g.w.heap.size _ out.toArray T (0, 0) (Go.heap_alloc_new _ _)]
      simp [hb i j hi hj]
  · have hi := (List.getElem?_eq_some_iff.1 hx).1
    have hj := (List.getElem?_eq_some_iff.1 hp).1
    rw [hz x (List.mem_of_getElem? hx)] at hj
    refine RRel.mono (hv i j x p _ hx hp ?_) hkeep
    simp [hb i j hi hj]

/-! ### what is appended -/
def bytesPV (b : ByteArray) : List PV := b.data.toList.map fun x => .int .u8 x.toNat

def srcPV (s : S) : PV → Option (List PV)
  | .sl ys => some ys
  | .nils => some []
  | .row k => (lk k s.r).map (·.xs)
  | .str b => some (bytesPV b)
  | _ => none
def srcOk (ti : TI) (sz : Nat) : PV → Bool
  | .str _ => ti.isStr && decide (sz = 1)
  | _ => ti.elem.isSome

theorem src_slice {T2 e' sz : Nat} (hu : P.underlying T2 = some (.slice e')) (hsz : 0 < sz) {ys : List PV} (hf : ys.all (fits sz) = true) {v : Value} (hv : RRel g.w g.mu (.sl ys) v) :
    ∃ news, Src P sz T2 v ys.length news g.w ∧ ∀ (i j : Nat) y p u, ys[i]? = some y → y.cells[j]? = some p → news[i * sz + j]? = some u → RRel g.w g.mu p u := by
  have hfit : ∀ y ∈ ys, y.cells.length = sz ∧ cellsOk y.cells = true := fun y hy => by
    have := List.all_eq_true.1 hf y hy
    simp only [fits, Bool.and_eq_true, decide_eq_true_eq] at this
    exact this.1
  cases hv with
  | sl xs A cc sz' u hc hm hsz' hA hu' =>
    by_cases hne : ys = []
    · subst hne
      cases A with
      | none => exact ⟨[], Src.ofNil _ hu cc, fun i j y p u h => by simp at h⟩
      | some ad => exact ⟨[], Src.ofSlice _ hu ad 0 cc [] (by simp) (fun j u h => by simp at h) (fun u h => by cases h), fun i j y p u h => by simp at h⟩
    · obtain ⟨ad, rfl, hcell⟩ := hA hne
      have hs : sz' = sz := by
        obtain ⟨y, hy⟩ := List.exists_mem_of_ne_nil ys hne
        rw [← hsz' y hy, (hfit y hy).1]
      subst hs
      have hdiv : ∀ i j, j < sz' → (i * sz' + j) / sz' = i ∧ (i * sz' + j) % sz' = j := fun i j hj => by
        constructor
        · rw [Nat.add_comm, Nat.add_mul_div_right _ _ hsz, Nat.div_eq_of_lt hj, Nat.zero_add]
        · rw [Nat.add_comm, Nat.add_mul_mod_self_right, Nat.mod_eq_of_lt hj]
      have hget : ∀ k, k < ys.length * sz' → ((List.range (ys.length * sz')).map fun k => u (k / sz') (k % sz'))[k]? = some (u (k / sz') (k % sz')) := fun k hk => by
        simp [List.getElem?_map, List.getElem?_range hk]
      have hlt : ∀ k, k < ys.length * sz' → k / sz' < ys.length ∧ k % sz' < sz' := fun k hk => ⟨by rw [Nat.div_lt_iff_lt_mul hsz]; exact hk, Nat.mod_lt _ hsz⟩
      refine ⟨(List.range (ys.length * sz')).map fun k => u (k / sz') (k % sz'), Src.ofSlice _ hu ad _ cc _ (by simp) (fun k w hk => ?_) (fun w hw => ?_), fun i j y p w h1 h2 h3 => ?_⟩
      · have hk' : k < ys.length * sz' := by have := (List.getElem?_eq_some_iff.1 hk).1; simpa using this
        rw [hget k hk'] at hk
        cases hk
        have := (hcell _ _ (hlt k hk').1 (hlt k hk').2).2
        rw [← this]
        congr 2
        rw [Nat.mul_comm]
        exact (Nat.div_add_mod k sz').symm
      · obtain ⟨k, hk, rfl⟩ := List.mem_map.1 hw
        have hk' : k < ys.length * sz' := List.mem_range.1 hk
        have h1 := (hlt k hk').1
        have hy := hfit _ (List.getElem_mem h1)
        have hj : k % sz' < (ys[k / sz']).cells.length := by rw [hy.1]; exact (hlt k hk').2
        have hp := List.all_eq_true.1 hy.2 _ (List.getElem_mem hj)
        simp only [Bool.and_eq_true, Bool.not_eq_true'] at hp
        exact one_of_RRel hp.2 (hu' _ _ _ _ (List.getElem?_eq_getElem h1) (List.getElem?_eq_getElem hj))
      · have hi := (List.getElem?_eq_some_iff.1 h1).1
        have hj := (List.getElem?_eq_some_iff.1 h2).1
        rw [(hfit y (List.mem_of_getElem? h1)).1] at hj
        have hb : i * sz' + j < ys.length * sz' := by
          have : (i + 1) * sz' ≤ ys.length * sz' := Nat.mul_le_mul_right _ hi
          rw [Nat.add_mul] at this
          omega
        rw [hget _ hb] at h3
        cases h3
        rw [(hdiv i j hj).1, (hdiv i j hj).2]
        exact hu' i j y p h1 h2

theorem src_row (hR : Rel c s g a) {T2 e' sz k : Nat} (hu : P.underlying T2 = some (.slice e')) {r : Rw} (hr : lk k s.r = some r) (hsz : 0 < sz) (hf : r.xs.all (fits sz) = true) :
    ∃ news, Src P sz T2 (g.ρ k) r.xs.length news g.w ∧ ∀ (i j : Nat) y p u, r.xs[i]? = some y → y.cells[j]? = some p → news[i * sz + j]? = some u → RRel g.w g.mu p u := by
  have hfit : ∀ y ∈ r.xs, y.cells.length = sz ∧ cellsOk y.cells = true := fun y hy => by
    have := List.all_eq_true.1 hf y hy
    simp only [fits, Bool.and_eq_true, decide_eq_true_eq] at this
    exact this.1
  obtain ⟨cs, hown, hz, hcs, _⟩ := hR.rows k r hr
  by_cases hne : r.xs = []
  · rw [hne]
    rcases hown.2 with ⟨h0, h1⟩ | ⟨gg, cap, cur, hval, _⟩
    · rw [h0]; exact ⟨[], Src.ofNil _ hu 0, fun i j y p u h => by simp at h⟩
    · rw [hval, hne]; exact ⟨[], Src.ofSlice _ hu _ 0 cap [] (by simp) (fun j u h => by simp at h) (fun u h => by cases h), fun i j y p u h => by simp at h⟩
  have hs : r.sz = sz := by
    obtain ⟨y, hy⟩ := List.exists_mem_of_ne_nil _ hne
    rw [← hz y hy, (hfit y hy).1]
  have hl := hown.1
  have hone : ∀ u ∈ cs, u.oneCell' = true := by
    intro u hu'
    obtain ⟨m, hm⟩ := List.getElem?_of_mem hu'
    have hml := (List.getElem?_eq_some_iff.1 hm).1
    rw [hl, hs] at hml
    have h1 : m / sz < r.xs.length := by rw [Nat.div_lt_iff_lt_mul hsz]; exact hml
    have hy := hfit _ (List.getElem_mem h1)
    have hj : m % sz < (r.xs[m / sz]).cells.length := by rw [hy.1]; exact Nat.mod_lt _ hsz
    have hp := List.all_eq_true.1 hy.2 _ (List.getElem_mem hj)
    simp only [Bool.and_eq_true, Bool.not_eq_true'] at hp
    refine one_of_RRel hp.2 (hcs (m / sz) (m % sz) _ _ u (List.getElem?_eq_getElem h1) (List.getElem?_eq_getElem hj) ?_)
    rw [hs, ← hm]
    congr 1
    rw [Nat.mul_comm]
    exact Nat.div_add_mod m sz
  rcases hown.2 with ⟨h0, h1⟩ | ⟨gg, cap, cur, hval, hrest⟩
  · exact absurd (List.eq_nil_of_length_eq_zero h1) hne
  · have holds : ∀ j u, cs[j]? = some u → g.w.cell? ((⟨gg, 0, none⟩ : Addr).add j) = some u := (show g.w.ownsRow 0 r.T r.sz (.slice (some ⟨gg, 0, none⟩) r.xs.length cap) r.xs.length cs from hval ▸ hown).cells (g := gg) rfl
    rw [hval]
    refine ⟨cs, Src.ofSlice _ hu _ _ cap cs (by rw [hl, hs]) (fun j u hj => holds j u hj) hone, fun i j y p u a1 a2 a3 => hcs i j y p u a1 a2 (by rw [hs]; exact a3)⟩

theorem src_sound (hR : Rel c s g a) {T2 sz : Nat} {ti2 : TI} (hT : TyOK P T2 ti2) (hsz : 0 < sz) {vy : PV} {ys : List PV} (hs : srcPV s vy = some ys) (hk : srcOk ti2 sz vy = true) (hf : ys.all (fits sz) = true)
    {v : Value} (hv : V3 g vy v) :
    ∃ news, Src P sz T2 v ys.length news g.w ∧ ∀ (i j : Nat) y p u, ys[i]? = some y → y.cells[j]? = some p → news[i * sz + j]? = some u → RRel g.w g.mu p u := by
  unfold srcPV at hs
  split at hs
  · rename_i zs
    cases hs
    obtain ⟨p, hp⟩ := Option.isSome_iff_exists.1 hk
    exact src_slice (hT.elem p.1 p.2 hp).1 hsz hf hv
  · cases hs
    obtain ⟨p, hp⟩ := Option.isSome_iff_exists.1 hk
    rw [inv_nils hv]
    exact ⟨[], Src.ofNil _ (hT.elem p.1 p.2 hp).1 0, fun i j y p u h => by simp at h⟩
  · rename_i k
    rw [Option.map_eq_some_iff] at hs
    obtain ⟨r, hr, e⟩ := hs
    subst e
    obtain ⟨p, hp⟩ := Option.isSome_iff_exists.1 hk
    have hv : v = g.ρ k := hv
    subst hv
    exact src_row hR (hT.elem p.1 p.2 hp).1 hr hsz hf
  · rename_i b
    cases hs
    simp only [srcOk, Bool.and_eq_true, decide_eq_true_eq] at hk
    obtain ⟨hk, hs1⟩ := hk
    subst hs1
    rw [inv_str hv]
    refine ⟨byteCells b, ?_, fun i j y p u a1 a2 a3 => ?_⟩
    · have := Src.ofString (P := P) g.w (hT.isStr hk) b
      have hl : (bytesPV b).length = b.size := by simp [bytesPV, ba_size]
      rw [hl]
      exact this
    · rw [bytesPV, List.getElem?_map, Option.map_eq_some_iff] at a1
      obtain ⟨x, hx, e⟩ := a1
      subst e
      cases j with
      | zero =>
        simp [PV.cells] at a2
        subst a2
        rw [Nat.mul_one, Nat.add_zero, byteCells, List.getElem?_map, hx] at a3
        simp at a3
        subst a3
        exact .int _ _
      | succ j => simp [PV.cells] at a2
  · cases hs

/-! ### no value is row e -/
def r1 (e : Nat) : PV → Bool
  | .row k => !(k == e)
  | .rptr k _ _ _ => !(k == e)
  | .rsl k _ _ _ => !(k == e)
  | _ => true
def noRow (s : S) (e : Nat) : Bool := (lk e s.r).isNone && s.t.all (fun p => all4 (r1 e) p.2) && s.b.all (fun p => p.2.l.all (r1 e))

def setRho (g : G) (e : Nat) (v : Value) : G := { g with ρ := fun k => if k = e then v else g.ρ k }
theorem V1.rho {e : Nat} {x : Value} {pv : PV} {v : Value} (hn : r1 e pv = true) (h : V1 g pv v) : V1 (setRho g e x) pv v := by
  cases pv with
  | row k =>
    have hk : k ≠ e := by simpa [r1] using hn
    have h : v = g.ρ k := h
    subst h
    show g.ρ k = if k = e then x else g.ρ k
    rw [if_neg hk]
  | rptr k sz i f =>
    have hk : k ≠ e := by simpa [r1] using hn
    show ∃ b n cap, (if k = e then x else g.ρ k) = _ ∧ _
    rw [if_neg hk]; exact h
  | rsl k sz lo n =>
    have hk : k ≠ e := by simpa [r1] using hn
    show ∃ b m cap, (if k = e then x else g.ρ k) = _ ∧ _
    rw [if_neg hk]; exact h
  | ref i off => exact h
  | mref i => exact h
  | cloB f l => exact h
  | eptr l => exact h
  | clo f l => exact h
  | raw x => exact h
  | any => exact h
  | int k n => exact h
  | bool b => exact h
  | str x => exact h
  | agg l => exact h
  | tup l => exact h
  | sl l => exact h
  | nils => exact h
  | opt c x => exact h
theorem V4.rho {e : Nat} {x : Value} {pv : PV} {v : Value} (hn : all4 (r1 e) pv = true) (h : V4 g pv v) : V4 (setRho g e x) pv v := by
  have := V4.lift (f := id) (q := r1 e) (fun p v h1 h2 => V1.rho (x := x) h1 h2) hn h
  rwa [map4_id] at this

/-- A new row that is the nil slice. -/
theorem Rel.setNil (hR : Rel c s g a) {e : Nat} (hn : noRow s e = true) (T sz : Nat) (ex : Bool) : Rel c { s with r := (e, ⟨T, sz, [], ex⟩) :: s.r } (setRho g e (.slice none 0 0)) a := by
  simp only [noRow, Bool.and_eq_true] at hn
  obtain ⟨⟨h1, h2⟩, h3⟩ := hn
  have hne : ∀ k x, lk k s.r = some x → k ≠ e := fun k x hx h => by subst h; rw [hx] at h1; cases h1
  have hρ : ∀ k, k ≠ e → (setRho g e (.slice none 0 0)).ρ k = g.ρ k := fun k hk => if_neg hk
  have hρe : (setRho g e (.slice none 0 0)).ρ e = .slice none 0 0 := if_pos rfl
  have old : ∀ k x, lk k ((e, (⟨T, sz, [], ex⟩ : Rw)) :: s.r) = some x → (k = e ∧ x = ⟨T, sz, [], ex⟩) ∨ (k ≠ e ∧ lk k s.r = some x) := fun k x h => by
    unfold lk at h
    split at h
    · rename_i e1; cases h; exact .inl ⟨e1, rfl⟩
    · rename_i e1; exact .inr ⟨e1, h⟩
  refine { hR with tmps := fun t pv ht => (hR.tmps t pv ht).rho (lk_all h2 t pv ht), boxes := fun i x hx => ?_, rows := fun k x hx => ?_, rbox := fun k x i y hx hy => ?_, rrow := fun k x k' x' b hx hx' hkk hb => ?_, rmine := fun k x b hx hb => ?_, rho := fun k => ?_ }
  · exact (hR.boxes i x hx).keep' rfl rfl (hR.boxes i x hx).2 (fun p hp v hv => hv.rho (List.all_eq_true.1 (lk_all h3 i x hx) p hp))
  · rcases old k x hx with ⟨rfl, rfl⟩ | ⟨hk, hx⟩
    · exact ⟨[], by rw [hρe]; exact ⟨by simp, .inl ⟨rfl, rfl⟩⟩, fun y h => (by cases h), fun i j y p v h => (by simp at h), fun b hb => by rw [hρe] at hb; cases hb⟩
    · exact (hR.rows k x hx).keep (hρ k hk) (fun _ _ => rfl) (fun _ _ _ => Iff.rfl) (fun _ _ h1 h2 => ⟨h1, h2⟩)
  · rcases old k x hx with ⟨rfl, rfl⟩ | ⟨hk, hx⟩
    · rw [hρe]; intro h; cases h
    · rw [hρ k hk]; exact hR.rbox k x i y hx hy
  · rcases old k x hx with ⟨rfl, rfl⟩ | ⟨hk, hx⟩
    · rw [hρe] at hb; cases hb
    · rcases old k' x' hx' with ⟨rfl, rfl⟩ | ⟨hk', hx'⟩
      · rw [hρe]; intro h; cases h
      · rw [hρ k hk] at hb
        rw [hρ k' hk']
        exact hR.rrow k x k' x' b hx hx' hkk hb
  · rcases old k x hx with ⟨rfl, rfl⟩ | ⟨hk, hx⟩
    · rw [hρe] at hb; cases hb
    · rw [hρ k hk] at hb
      exact hR.rmine k x b hx hb
  · show (if k = e then Value.slice none 0 0 else g.ρ k).oneCell' = true
    split
    · rfl
    · exact hR.rho k

/-! ### a row that is made -/
theorem dg1_id {e : Nat} {ex : Bool} {xs : List PV} {p : PV} (h : r1 e p = true) : dg1 e ex xs p = p := by
  cases p <;> first
    | rfl
    | (rename_i k; have hk : k ≠ e := by simpa [r1] using h
       exact if_neg hk)
    | (rename_i k _ _ _; have hk : k ≠ e := by simpa [r1] using h
       exact if_neg hk)
theorem map2_eq {q : PV → Bool} {f : PV → PV} (hf : ∀ p, q p = true → f p = p) {p : PV} (h : all2 q p = true) : map2 f p = p := by
  rcases agg_or p with ⟨l, rfl⟩ | hn
  · show PV.agg (l.map f) = .agg l
    have : l.map f = l := (List.map_congr_left (g := fun x => x) (fun p hp => hf p (List.all_eq_true.1 h p hp))).trans (by simp)
    rw [this]
  · have e : map2 f p = f p := by cases p <;> first | rfl | exact absurd rfl (hn _)
    have e' : q p = true := by cases p <;> first | exact h | exact absurd rfl (hn _)
    rw [e, hf p e']
theorem map3_eq {q : PV → Bool} {f : PV → PV} (hf : ∀ p, q p = true → f p = p) {p : PV} (h : all3 q p = true) : map3 f p = p := by
  rcases tup_or p with ⟨l, rfl⟩ | hn
  · show PV.tup (l.map (map2 f)) = .tup l
    have : l.map (map2 f) = l := (List.map_congr_left (g := fun x => x) (fun p hp => map2_eq hf (List.all_eq_true.1 h p hp))).trans (by simp)
    rw [this]
  · have e : map3 f p = map2 f p := by cases p <;> first | rfl | exact absurd rfl (hn _)
    have e' : all2 q p = true := by cases p <;> first | exact h | exact absurd rfl (hn _)
    rw [e, map2_eq hf e']
theorem map4_eq {q : PV → Bool} {f : PV → PV} (hf : ∀ p, q p = true → f p = p) {p : PV} (h : all4 q p = true) : map4 f p = p := by
  rcases opt_or p with ⟨b, x, rfl⟩ | hn
  · exact congrArg (PV.opt b) (map3_eq hf h)
  · have e : map4 f p = map3 f p := by cases p <;> first | rfl | exact absurd rfl (hn _ _)
    have e' : all3 q p = true := by cases p <;> first | exact h | exact absurd rfl (hn _ _)
    rw [e, map3_eq hf e']
theorem dgT_id {e : Nat} {ex : Bool} {xs : List PV} {t : List (Nat × PV)} (h : (t.all fun p => all4 (r1 e) p.2) = true) : dgT e ex xs t = t := by
  unfold dgT
  exact (List.map_congr_left (g := fun x => x) (fun p hp => by
    have := List.all_eq_true.1 h p hp
    show (p.1, map4 (dg1 e ex xs) p.2) = p
    rw [map4_eq (fun p => dg1_id) this])).trans (by simp)
theorem dgB_id {e : Nat} {ex : Bool} {xs : List PV} {b : List (Nat × Bx)} (h : (b.all fun p => p.2.l.all (r1 e)) = true) : dgB e ex xs b = b := by
  unfold dgB
  exact (List.map_congr_left (g := fun x => x) (fun p hp => by
    have := List.all_eq_true.1 h p hp
    show (p.1, (⟨p.2.T, p.2.l.map (dg1 e ex xs)⟩ : Bx)) = p
    have h2 : p.2.l.map (dg1 e ex xs) = p.2.l := (List.map_congr_left (g := fun x => x) (fun q hq => dg1_id (List.all_eq_true.1 this q hq))).trans (by simp)
    rw [h2])).trans (by simp)

theorem dropK_none {α : Type} {k : Nat} : ∀ {l : List (Nat × α)}, lk k l = none → dropK k l = l
  | [], _ => rfl
  | p :: l, h => by
    unfold lk at h
    split at h
    · cases h
    · rename_i e
      unfold dropK
      rw [if_neg (fun h => e h.symm), dropK_none h]

/-- A new block, as an own row. -/
theorem Rel.newRow (hR : Rel c s g a) {d : Nat} (hn : noRow s d = true) {T sz : Nat} (ex : Bool) {xs : List PV} {out : List Value} (hl : out.length = xs.length * sz) (hz : ∀ y ∈ xs, y.cells.length = sz)
    (hv : ∀ (i j : Nat) y p u, xs[i]? = some y → y.cells[j]? = some p → out[i * sz + j]? = some u → RRel g.w g.mu p u) (hm : xs.length ≤ maxLen) :
    ∃ g', g'.w = g.w.alloc (.cells out.toArray T) ∧ Rel c { s with r := (d, ⟨T, sz, xs, ex⟩) :: s.r } g' a ∧ g'.ρ d = .slice (some ⟨g.w.heap.size, 0, none⟩) xs.length xs.length := by
  have h0 := hR.setNil hn T sz ex
  have h1 := h0.append (e := d) (r := ⟨T, sz, [], ex⟩) (by simp [lk]) (v' := .slice (some ⟨g.w.heap.size, 0, none⟩) xs.length xs.length) (w' := g.w.alloc (.cells out.toArray T)) (ys := xs) (cs := []) (news := out)
    (by simp) (fun i j y p u h => by simp at h) hz hv ⟨by simpa using hl, .inr ⟨g.w.heap.size, xs.length, out.toArray, rfl, Nat.zero_le _, Go.heap_alloc_new _ _, by simp, hm, by simpa using hl, by simp [← hl]⟩⟩
    ⟨rfl, rfl, rfl, by show g.w.heap.size ≤ (g.w.heap.push _).size; simp, fun k hk _ => Go.heap_alloc_old _ _ k hk, fun x u hx _ => by
      show (g.w.alloc _).cell? x = some u
      rw [World.cell?_alloc_lt _ _ _ (World.block_lt_of_cell? g.w x hx)]; exact hx, .inr rfl⟩
  simp only [noRow, Bool.and_eq_true] at hn
  obtain ⟨⟨n1, n2⟩, n3⟩ := hn
  refine ⟨rowG (setRho g d (.slice none 0 0)) d (g.w.alloc (.cells out.toArray T)) (.slice (some ⟨g.w.heap.size, 0, none⟩) xs.length xs.length) (xs.length * sz) ex, rfl, ?_, if_pos rfl⟩
  simp only [dgT_id n2, dgB_id n3, List.nil_append] at h1
  refine h1.sub ⟨rfl, fun _ _ h => h, fun _ _ h => h, fun t v h => ?_⟩
  have hd : dropK d ((d, (⟨T, sz, [], ex⟩ : Rw)) :: s.r) = s.r := by
    show (if d = d then dropK d s.r else _) = s.r
    rw [if_pos rfl, dropK_none (by simpa using n1)]
  rw [hd]
  exact h

theorem ext_alloc (w : World) (o : Obj) : Ext w (w.alloc o) := fun x u hx => by rw [World.cell?_alloc_lt _ _ _ (World.block_lt_of_cell? w x hx)]; exact hx
/-! ### the operations -/
def bsOf (E : TE) (s : S) (T len : Nat) (ps : List (Nat × Operand)) : Option (List PV × Nat × Nat × Prop) :=
  match (lk T E).bind (·.elem), evParts s ps with
  | some (e, sz), some (l, o) => match frzAll s l with
    | some m => if (lk e E).isSome = true ∧ inRow 0 m = true ∧ m.length = len ∧ m.all (fun p => decide (p.2.cells.length = sz)) = true ∧ len * sz ≤ 16777216 ∧ 0 < len ∧ 0 < sz then some (m.map (·.2), e, sz, o) else none
    | none => none
  | _, _ => none

theorem bsOf_sound (hE : TEOK P E) (hR : Rel c s g a) {T len : Nat} {ps : Array (Nat × Operand)} {xs : List PV} {e0 sz0 : Nat} {ob : Prop} (h : bsOf E s T len ps.toList = some (xs, e0, sz0, ob)) (hob : ob) {o : Oper} (ho : o.op = .buildSlice T len ps) :
    ∃ out : List Value, (execOp a.eval o).run P g.w = .ok (.value (.slice (some ⟨g.w.heap.size, 0, none⟩) xs.length xs.length)) (g.w.alloc (.cells out.toArray e0)) ∧ out.length = xs.length * sz0 ∧ (∀ y ∈ xs, y.cells.length = sz0) ∧
      (∀ (i j : Nat) y p u, xs[i]? = some y → y.cells[j]? = some p → out[i * sz0 + j]? = some u → RRel g.w g.mu p u) ∧ xs.length ≤ maxLen := by
  unfold bsOf at h
  split at h
  · rename_i e sz l o' ht hp
    rw [Option.bind_eq_some_iff] at ht
    obtain ⟨ti, ht, hel⟩ := ht
    split at h
    · rename_i m hm
      split at h
      · rename_i hc
        cases h
        obtain ⟨hc0, hc1, hc2, hc3, hc4, hc5, hc6⟩ := hc
        obtain ⟨hu, hsz⟩ := (hE _ _ ht).elem e0 sz0 hel
        have hev := frzAll_sound hR hm (evParts_sound hR hp hob)
        obtain ⟨tie, hte⟩ := Option.isSome_iff_exists.1 hc0
        obtain ⟨ie, z, hie, _, _, hzz, _⟩ := (hE _ _ hte).info
        have hz : ∀ p ∈ m, p.2.cells.length = sz0 := fun p hp => of_decide_eq_true (List.all_eq_true.1 hc3 p hp)
        have his : ie.size = sz0 := by rw [hie] at hsz; simpa using hsz
        have hcs : ((Array.range (len * sz0)).map (z.cells[· % z.cells.size]!)).toList.length = len * sz0 := by simp
        obtain ⟨out, h1, h2, _, _, h5⟩ := fill_row (g := g) (i := 0) (cs := ((Array.range (len * sz0)).map (z.cells[· % z.cells.size]!)).toList) hc1 hz hev (by rw [hcs, Nat.zero_add, hc2]; exact Nat.le_refl _)
        have hml : (m.map (·.2)).length = len := by rw [List.length_map, hc2]
        have hpos : 0 < len * sz0 := Nat.mul_pos hc5 hc6
        have hle : len ≤ len * sz0 := Nat.le_mul_of_pos_right _ hc6
        refine ⟨out, ?_, by rw [h2, hcs, hml], fun y hy => ?_, fun i j y p u a1 a2 a3 => ?_, by rw [hml]; simp only [maxLen]; omega⟩
        rotate_left
        · obtain ⟨p, hp, rfl⟩ := List.mem_map.1 hy
          exact hz p hp
        · rw [List.getElem?_map, Option.map_eq_some_iff] at a1
          obtain ⟨q, hq, rfl⟩ := a1
          exact h5 i j q p u hq a2 (by rw [Nat.zero_add]; exact a3)
        rw [hml]
        have hrun := run_buildSlice (P := P) g.w T e0 len (ps.map fun (i, x) => (i, a.eval x)) out.toArray ie z hu hie hzz (by rw [his]; omega) (by rw [his]; omega) (by
          rw [Array.toArray_toList] at h1
          rw [his, Array.toList_map]
          exact h1)
        simp [execOp, ho, hrun]
      · cases h
    · cases h
  · cases h
end Go.Mh
