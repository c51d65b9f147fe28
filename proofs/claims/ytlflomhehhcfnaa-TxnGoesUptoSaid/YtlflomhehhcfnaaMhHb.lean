/- Slices that are made out of parts; what is appended. -/
import Derived.Test.YtlflomhehhcfnaaMhHa
namespace Go.Mh
open Go Go.RowKit
variable {P : Program} {E : TE} {c : Ctx} {s : S} {g : G} {a : Act}

def PV.isAgg : PV → Bool
  | .agg _ => true
  | _ => false
def cellsOk (l : List PV) : Bool := l.all fun p => p.flat && !p.isAgg
def fits (sz : Nat) (y : PV) : Bool := decide (y.cells.length = sz) && cellsOk y.cells && y.flat

/-! ### as readers see it -/
def frz1 (s : S) : PV → Option PV
  | .row e => match lk e s.r with
    | some r => if r.ex = true then none else some (.sl r.xs)
    | none => none
  | .int k n => some (.int k n)
  | .bool b => some (.bool b)
  | .str b => some (.str b)
  | .sl xs => some (.sl xs)
  | .nils => some .nils
  | .eptr l => some (.eptr l)
  | .clo f l => some (.clo f l)
  | _ => none
def frzL (s : S) : List PV → Option (List PV)
  | [] => some []
  | p :: l => match frz1 s p, frzL s l with
    | some q, some m => some (q :: m)
    | _, _ => none
def frz (s : S) : PV → Option PV
  | .agg l => match frzL s l with
    | some m => some (.agg m)
    | none => none
  | p => frz1 s p
theorem frz1_sound (hR : Rel c s g a) {p q : PV} {v : Value} (h : frz1 s p = some q) (hv : V1 g p v) : RRel g.w g.mu q v := by
  unfold frz1 at h
  split at h
  · split at h
    · rename_i r hr
      split at h
      · cases h
      · rename_i hex
        cases h
        have hv : v = g.ρ _ := hv
        subst hv
        exact row_sl hR hr (by simpa using hex)
    · cases h
  all_goals first | (cases h; exact hv) | cases h
theorem frzL_sound (hR : Rel c s g a) : ∀ {l m : List PV} {vs : List Value}, frzL s l = some m → vs.length = l.length → (∀ (i : Nat) p v, l[i]? = some p → vs[i]? = some v → V1 g p v) →
    m.length = l.length ∧ ∀ (i : Nat) p v, m[i]? = some p → vs[i]? = some v → RRel g.w g.mu p v
  | [], m, vs, h, hl, _ => by
    cases h
    exact ⟨rfl, fun i p v h => by simp at h⟩
  | p :: l, m, vs, h, hl, hv => by
    unfold frzL at h
    split at h
    · rename_i q m' h1 h2
      cases h
      match vs, hl with
      | v :: vs, hl =>
        obtain ⟨h3, h4⟩ := frzL_sound hR h2 (by simpa using hl) (fun i p v a b => hv (i + 1) p v (by simpa using a) (by simpa using b))
        refine ⟨by simp [h3], fun i p' v' a b => ?_⟩
        cases i with
        | zero =>
          simp at a b
          subst a; subst b
          exact frz1_sound hR h1 (hv 0 _ _ rfl rfl)
        | succ i => exact h4 i p' v' (by simpa using a) (by simpa using b)
    · cases h
theorem frz_sound (hR : Rel c s g a) {p q : PV} {v : Value} (h : frz s p = some q) (hv : V2 g p v) : RRel g.w g.mu q v := by
  by_cases hn : ∃ l, p = .agg l
  · obtain ⟨l, rfl⟩ := hn
    simp only [frz] at h
    split at h
    · rename_i m hm
      cases h
      obtain ⟨vs, rfl, hl, hvs⟩ := hv
      obtain ⟨h1, h2⟩ := frzL_sound hR hm hl hvs
      exact .agg m vs (by omega) h2
    · cases h
  · have hn : ∀ l, p ≠ .agg l := fun l e => hn ⟨l, e⟩
    have h1 : V1 g p v := by cases p <;> first | exact hv | exact absurd rfl (hn _)
    have h2 : frz1 s p = some q := by cases p <;> first | exact h | exact absurd rfl (hn _)
    exact frz1_sound hR h2 h1


theorem one_of_RRel {w : World} {mu : Addr → Prop} {p : PV} {v : Value} (hn : p.isAgg = false) (h : RRel w mu p v) : v.oneCell' = true := by
  cases h <;> first | rfl | cases hn

/-- The nil slice, as a slice that has nothing. -/
def nz1 : PV → PV
  | .nils => .sl []
  | p => p
theorem RRel.nz1 {w : World} {mu : Addr → Prop} {p : PV} {v : Value} (h : RRel w mu p v) : RRel w mu (Mh.nz1 p) v := by
  cases h with
  | nils => exact RRel.sl [] none 0 0 (fun _ _ => undef) (Nat.le_refl _) (Nat.zero_le _) (fun x h => by cases h) (fun h => absurd rfl h) (fun i j x pv h => by simp at h)
  | agg l vs hl h => exact .agg l vs hl h
  | int k n => exact .int k n
  | bool b => exact .bool b
  | str s => exact .str s
  | sl xs A c sz u hc hm hsz hA h => exact .sl xs A c sz u hc hm hsz hA h
  | eptr l ad u hA h => exact .eptr l ad u hA h
  | clo f l vs hl h => exact .clo f l vs hl h
theorem RRel.nz {w : World} {mu : Addr → Prop} {p : PV} {v : Value} (h : RRel w mu p v) : RRel w mu (map2 Mh.nz1 p) v := by
  rcases agg_or p with ⟨l, rfl⟩ | hn
  · cases h with
    | agg _ vs hl h =>
      refine .agg _ vs (by simp [hl]) fun i q u h1 h2 => ?_
      rw [List.getElem?_map, Option.map_eq_some_iff] at h1
      obtain ⟨r, hr, rfl⟩ := h1
      exact (h i r u hr h2).nz1
  · have e : map2 Mh.nz1 p = Mh.nz1 p := by cases p <;> first | rfl | exact absurd rfl (hn _)
    rw [e]; exact h.nz1
def frzN (s : S) (p : PV) : Option PV :=
  match frz s p with
  | some q => some (map2 nz1 q)
  | none => none
theorem frzN_sound (hR : Rel c s g a) {p q : PV} {v : Value} (h : frzN s p = some q) (hv : V2 g p v) : RRel g.w g.mu q v := by
  unfold frzN at h
  split at h
  · rename_i r hr
    cases h
    exact (frz_sound hR hr hv).nz
  · cases h

/-- Cells of data. -/
theorem cells_of_RRel {w : World} {mu : Addr → Prop} {p : PV} {v : Value} (h : RRel w mu p v) :
    ∃ ws : List Value, v.cells = ws.toArray ∧ ws.length = p.cells.length ∧ ∀ (k : Nat) q u, p.cells[k]? = some q → ws[k]? = some u → RRel w mu q u := by
  have one : ∀ {q : PV} {u : Value}, RRel w mu q u → u.cells = #[u] → q.cells = [q] →
      ∃ ws : List Value, u.cells = ws.toArray ∧ ws.length = q.cells.length ∧ ∀ (k : Nat) q' u', q.cells[k]? = some q' → ws[k]? = some u' → RRel w mu q' u' := by
    intro q u hr h1 h2
    refine ⟨[u], h1, by rw [h2]; rfl, fun k q' u' a b => ?_⟩
    rw [h2] at a
    cases k with
    | zero => simp at a b; subst a; subst b; exact hr
    | succ k => simp at a
  cases h with
  | agg l vs hl hv => exact ⟨vs, rfl, hl, hv⟩
  | int k n => exact one (.int k n) rfl rfl
  | bool b => exact one (.bool b) rfl rfl
  | str b => exact one (.str b) rfl rfl
  | nils => exact one .nils rfl rfl
  | sl xs A cc sz u hc hm hsz hA hu => exact one (.sl xs A cc sz u hc hm hsz hA hu) rfl rfl
  | eptr l ad u hA hu => exact one (.eptr l ad u hA hu) rfl rfl
  | clo f l vs hl hu => exact one (.clo f l vs hl hu) rfl rfl

/-! ### a slice of parts -/
def frzAll (s : S) : List (Nat × PV) → Option (List (Nat × PV))
  | [] => some []
  | p :: l => match frz s p.2, frzAll s l with
    | some q, some m => some ((p.1, q) :: m)
    | _, _ => none
def inRow : Nat → List (Nat × PV) → Bool
  | _, [] => true
  | i, p :: l => decide (p.1 = i) && inRow (i + 1) l

theorem fill_row {sz : Nat} : ∀ {ps : List (Nat × PV)} {vs : List (Nat × Value)} {i : Nat} {cs : List Value}, inRow i ps = true → (∀ p ∈ ps, p.2.cells.length = sz) →
    (vs.length = ps.length ∧ ∀ (k : Nat) p v, ps[k]? = some p → vs[k]? = some v → p.1 = v.1 ∧ RRel g.w g.mu p.2 v.2) → (i + ps.length) * sz ≤ cs.length →
    ∃ out : List Value, Instr.fill (fun i => some (i * sz, sz)) cs.toArray vs = some out.toArray ∧ out.length = cs.length ∧ (∀ k, k < i * sz → out[k]? = cs[k]?) ∧ (∀ k, (i + ps.length) * sz ≤ k → out[k]? = cs[k]?) ∧
      ∀ (k j : Nat) p q u, ps[k]? = some p → p.2.cells[j]? = some q → out[(i + k) * sz + j]? = some u → RRel g.w g.mu q u
  | [], [], i, cs, _, _, _, _ => ⟨cs, rfl, rfl, fun _ _ => rfl, fun _ _ => rfl, fun k j p q u h => by simp at h⟩
  | [], _ :: _, _, _, _, _, hv, _ => by simp at hv
  | _ :: _, [], _, _, _, _, hv, _ => by simp at hv
  | (n, p) :: ps, (m, v) :: vs, i, cs, hr, hz, hv, hl => by
    obtain ⟨e, hpv⟩ := hv.2 0 (n, p) (m, v) rfl rfl
    simp only at e hpv
    subst e
    have hr : (decide (n = i) && inRow (i + 1) ps) = true := hr
    rw [Bool.and_eq_true, decide_eq_true_eq] at hr
    obtain ⟨rfl, hr⟩ := hr
    obtain ⟨ws, hw1, hw2, hw3⟩ := cells_of_RRel hpv
    have hpz : p.cells.length = sz := hz (n, p) List.mem_cons_self
    have hwl : ws.length = sz := by rw [hw2, hpz]
    have hle : n * sz + sz ≤ cs.length := by
      have : (n + 1) * sz ≤ (n + (ps.length + 1)) * sz := Nat.mul_le_mul_right _ (by omega)
      rw [Nat.add_mul] at this
      simp only [List.length_cons] at hl
      omega
    have hfold := foldl_set (n * sz) ws 0 cs (by omega)
    simp only [Nat.add_zero] at hfold
    have hcl : (cs.take (n * sz) ++ ws ++ cs.drop (n * sz + ws.length)).length = cs.length := by
      simp only [List.length_append, List.length_take, List.length_drop]
      omega
    obtain ⟨out, h1, h2, h3, h4, h5⟩ := fill_row (cs := cs.take (n * sz) ++ ws ++ cs.drop (n * sz + ws.length)) hr (fun q hq => hz q (List.mem_cons_of_mem _ hq))
      ⟨by simpa using hv.1, fun k q u a b => hv.2 (k + 1) q u (by simpa using a) (by simpa using b)⟩ (by rw [hcl]; simp only [List.length_cons] at hl; rw [show n + 1 + ps.length = n + (ps.length + 1) by omega]; exact hl)
    have hn1 : (n + 1) * sz = n * sz + sz := by rw [Nat.add_mul, Nat.one_mul]
    refine ⟨out, ?_, by rw [h2, hcl], fun k hk => ?_, fun k hk => ?_, fun k j q q' u a b c' => ?_⟩
    · unfold Instr.fill
      simp only [hw1, List.size_toArray, hwl, ne_eq, not_true_eq_false, decide_false, Bool.false_or]
      rw [if_neg (by simp; omega)]
      rw [← h1]
      congr 1
      apply Array.ext'
      rw [← hfold]
      simp [Array.foldl_toList]
    · rw [h3 k (by rw [hn1]; omega), List.append_assoc, List.getElem?_append_left (by rw [List.length_take]; omega), List.getElem?_take_of_lt hk]
    · simp only [List.length_cons] at hk
      have hk2 : n * sz + sz ≤ k := by
        have : (n + 1) * sz ≤ (n + (ps.length + 1)) * sz := Nat.mul_le_mul_right _ (by omega)
        rw [hn1] at this
        omega
      rw [h4 k (by rw [show n + 1 + ps.length = n + (ps.length + 1) by omega]; exact hk)]
      rw [List.getElem?_append_right (by rw [List.length_append, List.length_take]; omega), List.getElem?_drop]
      congr 1
      rw [List.length_append, List.length_take]
      omega
    · cases k with
      | zero =>
        simp at a
        subst a
        have hj := (List.getElem?_eq_some_iff.1 b).1
        simp only [hpz] at hj
        simp only [Nat.add_zero] at c'
        rw [h3 _ (by rw [hn1]; omega), List.append_assoc, List.getElem?_append_right (by rw [List.length_take]; omega)] at c'
        have e2 : n * sz + j - (cs.take (n * sz)).length = j := by rw [List.length_take]; omega
        rw [e2, List.getElem?_append_left (by omega)] at c'
        exact hw3 j q' u b c'
      | succ k =>
        refine h5 k j q q' u (by simpa using a) b ?_
        rw [← c']
        congr 2
        rw [show n + (k + 1) = n + 1 + k by omega]
end Go.Mh
