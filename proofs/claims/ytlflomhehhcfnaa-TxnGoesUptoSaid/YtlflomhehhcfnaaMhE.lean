/- 'pop' is sound. -/
import Derived.Test.YtlflomhehhcfnaaMhD
namespace Go.Mh
open Go Go.RowKit
variable {P : Program} {E : TE} {c : Ctx} {s : S} {g : G} {a : Act}

/-! ### build -/
theorem foldl_set (off : Nat) : ∀ (vs : List Value) (k : Nat) (cs : List Value), off + k + vs.length ≤ cs.length →
    ((vs.zipIdx k).foldl (fun (cs : Array Value) (p : Value × Nat) => cs.setIfInBounds (off + p.2) p.1) cs.toArray).toList = cs.take (off + k) ++ vs ++ cs.drop (off + k + vs.length)
  | [], k, cs, _ => by simp
  | v :: r, k, cs, h => by
    simp only [List.zipIdx_cons, List.foldl_cons, List.setIfInBounds_toArray]
    have h' : off + (k + 1) + r.length ≤ (cs.set (off + k) v).length := by simp at h ⊢; omega
    rw [foldl_set off r (k + 1) (cs.set (off + k) v) h']
    have hlt : off + k < cs.length := by simp at h; omega
    apply List.ext_getElem?
    intro i
    simp only [List.getElem?_append, List.getElem?_take, List.getElem?_drop, List.length_append, List.length_take, List.length_set, List.getElem?_set, List.length_cons, List.length_drop, List.getElem?_cons]
    simp only [List.length_cons] at h
    have e1 : min (off + (k + 1)) cs.length = off + (k + 1) := by omega
    have e2 : min (off + k) cs.length = off + k := by omega
    rw [e1, e2]
    by_cases h1 : i < off + k
    · rw [if_pos (by omega), if_pos (by omega), if_pos (by omega), if_neg (by omega), if_pos (by omega), if_pos (by omega), if_pos (by omega)]
    · by_cases h2 : i = off + k
      · rw [if_pos (by omega), if_pos (by omega), if_pos (by omega), if_pos (by omega), if_pos (by omega), if_pos (by omega), if_neg (by omega), if_pos (by omega)]
      · by_cases h3 : i < off + k + (r.length + 1)
        · rw [if_pos (by omega), if_neg (by omega), if_pos (by omega), if_neg (by omega), if_neg (by omega)]
          congr 1
        · rw [if_neg (by omega), if_neg (by omega)]
          rw [if_neg (by omega)]
          congr 1
          omega

theorem places_opt : ∀ {fl : List TF} {fs : List Field}, fldOk P fl fs = true →
    (fs.mapM fun f => (P.info? f.type).map fun i => (f.offset, i.size)) = some (fl.map fun x => (x.off, x.size))
  | [], [], _ => by simp
  | y :: l, fd :: r, h => by
    obtain ⟨fd', h1, h2, h3, _⟩ := fldOk_at (f := 0) h rfl
    simp at h1
    subst h1
    have h5 : fldOk P l r = true := by
      have h : (decide (fd.offset = y.off) && decide ((P.info? fd.type).map (·.size) = some y.size) && decide (y.size ≠ 0) &&
        (match P.underlying fd.type with | some d => decide (d.isRow = y.agg) | none => false) && fldOk P l r) = true := h
      simp only [Bool.and_eq_true] at h
      exact h.2
    have ih := places_opt h5
    rw [Option.map_eq_some_iff] at h3
    obtain ⟨i, hi, hs⟩ := h3
    simp [List.mapM_cons, hi, ih, h2, hs]
  | [], _ :: _, h => by cases h
  | _ :: _, [], h => by cases h

theorem V2_of_V3 {pv : PV} {v : Value} (hn : ∀ l, pv ≠ .tup l) (h : V3 g pv v) : V2 g pv v := by
  cases pv <;> first | exact h | exact absurd rfl (hn _)
theorem V1_of_V3 {pv : PV} {v : Value} (hn : ∀ l, pv ≠ .tup l) (hm : ∀ l, pv ≠ .agg l) (h : V3 g pv v) : V1 g pv v := by
  cases pv <;> first | exact h | exact absurd rfl (hn _) | exact absurd rfl (hm _)

theorem one_of_V1 {p : PV} {v : Value} (hρ : ∀ e, (g.ρ e).oneCell' = true) (hf : p.flat = true) (hn : ∀ l, p ≠ .agg l) (h : V1 g p v) : v.oneCell' = true := by
  cases p with
  | agg l => exact absurd rfl (hn l)
  | ref i o => have h : v = _ := h; subst h; rfl
  | eptr l => have h : RRel g.w g.mu (.eptr l) v := h; cases h; rfl
  | clo f l => have h : RRel g.w g.mu (.clo f l) v := h; cases h; rfl
  | mref i => have h : v = _ := h; subst h; rfl
  | cloB f l => have h : v = _ := h; subst h; rfl
  | rptr e sz i f => obtain ⟨b, n, cap, _, e1⟩ := h; subst e1; rfl
  | rsl e sz lo n => obtain ⟨b, m, cap, _, e1⟩ := h; subst e1; rfl
  | any => cases hf
  | row e => have h : v = g.ρ e := h; subst h; exact hρ e
  | raw x => have h : v = x := h; subst h; exact hf
  | int k n => have h : RRel g.w g.mu (.int k n) v := h; cases h; rfl
  | bool b => have h : RRel g.w g.mu (.bool b) v := h; cases h; rfl
  | str b => have h : RRel g.w g.mu (.str b) v := h; cases h; rfl
  | nils => have h : RRel g.w g.mu .nils v := h; cases h; rfl
  | sl xs => have h : RRel g.w g.mu (.sl xs) v := h; cases h; rfl
  | tup l => have h : RRel g.w g.mu (.tup l) v := h; cases h
  | opt b x => have h : RRel g.w g.mu (.opt b x) v := h; cases h

theorem cells_one {v : Value} (h : v.oneCell' = true) : v.cells = #[v] := by
  cases v <;> first | rfl | cases h

theorem cells_of_V2 {p : PV} {v : Value} (hρ : ∀ e, (g.ρ e).oneCell' = true) (hf : p.flat = true) (h : V2 g p v) :
    ∃ ws : List Value, v.cells = ws.toArray ∧ ws.length = p.cells.length ∧ ∀ (k : Nat) q u, p.cells[k]? = some q → ws[k]? = some u → V1 g q u := by
  by_cases hn : ∃ l, p = .agg l
  · obtain ⟨l, rfl⟩ := hn
    obtain ⟨ws, rfl, h1, h2⟩ := h
    exact ⟨ws, rfl, h1, h2⟩
  · have hn : ∀ l, p ≠ .agg l := fun l e => hn ⟨l, e⟩
    have h1 : V1 g p v := by cases p <;> first | exact h | exact absurd rfl (hn _)
    have hc : p.cells = [p] := by cases p <;> first | rfl | exact absurd rfl (hn _)
    refine ⟨[v], by rw [cells_one (one_of_V1 hρ hf hn h1)], by rw [hc]; rfl, fun k q u hq hu => ?_⟩
    rw [hc] at hq
    cases k with
    | zero => simp at hq hu; subst hq; subst hu; exact h1
    | succ k => simp at hq

theorem fill_sound {g : G} (hρ : ∀ e, (g.ρ e).oneCell' = true) {fl : List TF} : ∀ {ps : List (Nat × PV)} {vs : List (Nat × Value)} {z : List PV} {cs : List Value} {l : List PV},
    fillL z fl ps = some l → cs.length = z.length → (∀ (i : Nat) p v, z[i]? = some p → cs[i]? = some v → V1 g p v) →
    (vs.length = ps.length ∧ ∀ (i : Nat) p v, ps[i]? = some p → vs[i]? = some v → p.1 = v.1 ∧ V3 g p.2 v.2) →
    ∃ out : List Value, Instr.fill ((fl.map fun x => (x.off, x.size)).toArray[·]?) cs.toArray vs = some out.toArray ∧ out.length = l.length ∧ ∀ (i : Nat) p v, l[i]? = some p → out[i]? = some v → V1 g p v
  | [], [], z, cs, l, h, hl, hz, _ => by cases h; exact ⟨cs, rfl, hl, hz⟩
  | [], _ :: _, _, _, _, _, _, _, hv => by simp at hv
  | _ :: _, [], _, _, _, _, _, _, hv => by simp at hv
  | (i, p) :: ps, (j, v) :: vs, z, cs, l, h, hl, hz, hv => by
    have h0 := hv.2 0 (i, p) (j, v) rfl rfl
    obtain ⟨e, hpv⟩ := h0
    simp only at e hpv
    subst e
    unfold fillL at h
    cases hf : fl[i]? with
    | none => rw [hf] at h; cases h
    | some f =>
      rw [hf] at h
      simp only at h
      split at h
      · rename_i hc
        obtain ⟨hc0, hc1, hc2⟩ := hc
        -- v's cells
        have hcells := cells_of_V2 hρ hc0 (V2_of_V3 (fun l e => by subst e; cases hc0) hpv)
        obtain ⟨ws, hw, hwl, hwv⟩ := hcells
        have hfit : f.off + 0 + ws.length ≤ cs.length := by rw [hwl, hc1, hl]; omega
        have hfold := foldl_set f.off ws 0 cs hfit
        simp only [Nat.add_zero] at hfold
        have ih := fill_sound (g := g) hρ (fl := fl) (vs := vs) (cs := cs.take f.off ++ ws ++ cs.drop (f.off + ws.length)) h ?_ ?_ ⟨by simpa using hv.1, fun k q u h1 h2 => hv.2 (k + 1) q u (by simpa using h1) (by simpa using h2)⟩
        · obtain ⟨out, ho, h1, h2⟩ := ih
          refine ⟨out, ?_, h1, h2⟩
          unfold Instr.fill
          have hp : ((fl.map fun x => (x.off, x.size)).toArray[i]?) = some (f.off, f.size) := by simp [hf]
          rw [hp]
          simp only [hw, List.size_toArray, hwl, hc1, ne_eq, not_true_eq_false, decide_false, Bool.false_or]
          rw [if_neg (by simp; omega)]
          rw [← ho]
          congr 1
          apply Array.ext'
          rw [← hfold]
          simp [Array.foldl_toList]
        · simp only [List.length_append, List.length_take, List.length_drop, hwl, hl, hc1]
        · intro k q u h1 h2
          simp only [List.getElem?_append, List.getElem?_take, List.getElem?_drop, List.length_append, List.length_take, hwl, hl] at h1 h2
          have e2 : min f.off z.length = f.off := by omega
          rw [e2] at h1 h2
          by_cases hk : k < f.off
          · rw [if_pos (by omega), if_pos hk, if_pos hk] at h1 h2
            exact hz k q u h1 h2
          · by_cases hk2 : k < f.off + p.cells.length
            · rw [if_pos hk2, if_neg hk] at h1 h2
              exact hwv _ q u h1 h2
            · rw [if_neg hk2] at h1 h2
              rw [hc1] at h1 h2
              exact hz _ q u h1 h2
      · cases h
end Go.Mh
