/- One operation, a region, code, a function: the triples. -/
import Derived.Test.YtlflomhehhcfnaaMhHc
import Derived.Deep.LoopGhost
namespace Go.Mh
open Go Go.RowKit
variable {P : Program} {E : TE} {c : Ctx} {s : S} {g : G} {a : Act}

def dstOk (s : S) : Option Nat → Bool
  | some d => decide (d < s.n)
  | none => true

/-! ### the rows that a value hangs on: they are written no more once it is data -/
def rids1 : PV → List Nat
  | .row e => [e]
  | _ => []
def rids : PV → List Nat
  | .agg l => l.flatMap rids1
  | p => rids1 p
def opRids (s : S) (x : Operand) : List Nat :=
  match evp s x with
  | some (v, _) => rids v
  | none => []
def partRids (s : S) : List (Nat × Operand) → List Nat
  | [] => []
  | p :: r => opRids s p.2 ++ partRids s r
def argRids (s : S) : List Operand → List Nat
  | [] => []
  | x :: r => opRids s x ++ argRids s r
def S.fzn (s : S) (ids : List Nat) : S := if ids.isEmpty = true then s else s.fz ids

theorem Rel.fzn (hR : Rel c s g a) (ids : List Nat) : ∃ g', Same g g' ∧ g'.w = g.w ∧ Rel c (s.fzn ids) g' a := by
  unfold S.fzn
  split
  · exact ⟨g, ⟨fun _ _ h1 h2 => ⟨h1, h2⟩, rfl, rfl⟩, rfl, hR⟩
  · exact ⟨_, fzG_same g s.r ids, rfl, hR.fz ids⟩

/-- An element behind a store. -/
def putEl (y : PV) (f sz : Nat) (q : PV) : PV := if f = 0 ∧ q.cells.length = sz then q else .agg (putCells y.cells f q.cells)

/-- append: base, source, type. -/
def appOf (E : TE) (s : S) (d : Nat) (x y : Operand) (T tx : TypeId) : Option (S × Prop) :=
  match evp s x, evp s y, (lk T E).bind (·.elem), lk tx E with
  | some (.row e, o1), some (v, o2), some (te, sz), some ti2 =>
    match lk e s.r, srcPV s v, lk te E with
    | some r, some ys, some tie => if d < s.n ∧ r.T = te ∧ r.sz = sz ∧ 0 < sz ∧ 0 < tie.bytes ∧ srcOk ti2 sz v = true then
        some (S.put { s with t := dgT e r.ex r.xs s.t, b := dgB e r.ex r.xs s.b, r := (e, { r with xs := r.xs ++ ys }) :: dropK e s.r } (some d) (.row e),
          o1 ∧ o2 ∧ ys.all (fits sz) = true ∧ (r.xs.length + ys.length) * tie.bytes ≤ 140737488355328) else none
    | _, _, _ => none
  | some (.nils, o1), some (v, o2), some (te, sz), some ti2 =>
    match srcPV s v, lk te E with
    | some ys, some tie => if d < s.n ∧ noRow s d = true ∧ 0 < sz ∧ 0 < tie.bytes ∧ srcOk ti2 sz v = true then
        some (S.put { s with r := (d, ⟨te, sz, ys, true⟩) :: s.r } (some d) (.row d),
          o1 ∧ o2 ∧ ys.all (fits sz) = true ∧ ys.length * tie.bytes ≤ 140737488355328) else none
    | _, _ => none
  | _, _, _, _ => none

def stepU (E : TE) (s : S) (dst : Option Nat) (op : Op) : Option (S × Prop) :=
  match pop E s op with
  | some (pv, ob) => if dstOk s dst = true then some (s.put dst pv, ob) else none
  | none =>
    match op, dst with
    | .alloc T, some d =>
      match lk T E with
      | some ti => if d < s.n ∧ freeId s d = true ∧ ti.zero.flat = true ∧ ti.zero.cells.all (n1 d) = true then
          some (S.put { s with b := (d, ⟨T, ti.zero.cells⟩) :: s.b } (some d) (.ref d 0), True) else none
      | none => none
    | .box T x, some d =>
      match evp s x with
      | some (v, o) => if d < s.n ∧ freeId s d = true ∧ v.flat = true ∧ v.cells.all (n1 d) = true then
          some (S.put { s with b := (d, ⟨T, v.cells⟩) :: s.b } (some d) (.ref d 0), o) else none
      | none => none
    | .store T p x, none =>
      match evp s p, evp s x, lk T E with
      | some (.ref id off, o1), some (v, o2), some ti =>
        match lk id s.b with
        | some bx => if v.flat = true ∧ cellsOk v.cells = true ∧ v.cells.length = ti.size ∧ off + ti.size ≤ bx.l.length then
            some ({ s with b := (id, ⟨bx.T, putCells bx.l off v.cells⟩) :: dropK id s.b }, o1 ∧ o2) else none
        | none => none
      | some (.rptr e sz i f, o1), some (v, o2), some ti =>
        match lk e (s.fzn (rids v)).r, frz (s.fzn (rids v)) v with
        | some r, some q => if r.ex = true ∧ r.sz = sz ∧ cellsOk q.cells = true ∧ q.cells.length = ti.size ∧ f + ti.size ≤ sz then
            some ({ s.fzn (rids v) with r := (e, { r with xs := r.xs.set i (putEl (r.xs.getD i .nils) f sz q) }) :: dropK e (s.fzn (rids v)).r }, o1 ∧ o2 ∧ i < r.xs.length) else none
        | _, _ => none
      | _, _, _ => none
    | .buildSlice T len ps, some d =>
      if len = 0 then
        match (lk T E).bind (·.elem) with
        | some (te, sz) => if d < s.n ∧ noRow s d = true ∧ ps.toList = [] then some (S.put { s with r := (d, ⟨te, sz, [], true⟩) :: s.r } (some d) (.row d), True) else none
        | none => none
      else
        match bsOf E (s.fzn (partRids s ps.toList)) T len ps.toList with
        | some (xs, te, sz, o) => if d < s.n ∧ noRow (s.fzn (partRids s ps.toList)) d = true then some (S.put { s.fzn (partRids s ps.toList) with r := (d, ⟨te, sz, xs, true⟩) :: (s.fzn (partRids s ps.toList)).r } (some d) (.row d), o) else none
        | none => none
    | .call cl, some d =>
      match cl.callee, cl.args.toList, cl.argTypes.toList with
      | .builtin .append, [x, y], [T, tx] => appOf E s d x y T tx
      | _, _, _ => none
    | _, _ => none

theorem fzn_n (s : S) (ids : List Nat) : (s.fzn ids).n = s.n := by unfold S.fzn; split <;> rfl
theorem fzn_t (s : S) (ids : List Nat) : (s.fzn ids).t = s.t := by unfold S.fzn; split <;> rfl
theorem fzn_b (s : S) (ids : List Nat) : (s.fzn ids).b = s.b := by unfold S.fzn; split <;> rfl

theorem Rel.put1 (h : Rel c s g a) {d : Option Nat} (hd : dstOk s d = true) {pv : PV} {v : Value} (hv : V3 g pv v) : Rel c (s.put d pv) g (a.put d v) :=
  h.put d (fun i hi => by subst hi; simpa [dstOk] using hd) (.of3 hv)

theorem appOf_sound (hE : TEOK P E) (hR : Rel c s g a) {d : Nat} {x y : Operand} {T tx ty : TypeId} {s' : S} {ob : Prop} (h : appOf E s d x y T tx = some (s', ob)) (hob : ob) :
    ∃ v w', (Builtin.append_ #[T, tx] ty #[a.eval x, a.eval y]).run P g.w = .ok v w' ∧ ∃ g', g'.w = w' ∧ Rel c s' g' (a.put (some d) v) := by
  unfold appOf at h
  split at h
  · rename_i e o1 v o2 te sz ti2 hx hy ht ht2
    split at h
    · rename_i r ys tie hr hs hte
      split at h
      · rename_i hc
        cases h
        obtain ⟨hd, hc1, hc2, hc3, hc4, hc5⟩ := hc
        obtain ⟨h1, h2, h3, h4⟩ := hob
        rw [Option.bind_eq_some_iff] at ht
        obtain ⟨tiT, ht, hel⟩ := ht
        have ex : a.eval x = g.ρ e := evp_sound hR hx h1
        obtain ⟨news, hsrc, hnv⟩ := src_sound hR (hE _ _ ht2) hc3 hs hc5 h3 (evp_sound hR hy h2)
        obtain ⟨cs, hown, hz, hcs, hmu⟩ := hR.rows e r hr
        rw [hc1, hc2] at hown
        obtain ⟨v', w', hrun, hown', hG⟩ := append_row (ty := ty) (hE _ _ ht) hel (hE _ _ hte) hown hsrc h4 hc4 (Nat.zero_le _)
        refine ⟨v', w', by rw [ex]; exact hrun, rowG g e w' v' ((r.xs ++ ys).length * r.sz) r.ex, rfl, ?_⟩
        have hap := hR.append (e := e) hr (v' := v') (w' := w') (ys := ys) (cs := cs) (news := news) (by rw [hc2]; exact hown.1) hcs
          (fun y hy => by
            have := List.all_eq_true.1 h3 y hy
            simp only [fits, Bool.and_eq_true, decide_eq_true_eq] at this
            rw [hc2]; exact this.1.1)
          (by rw [hc2]; exact hnv) (by rw [hc1, hc2, List.length_append]; exact hown') (by rw [hc2]; exact hG)
        refine hap.put (some d) (fun i hi => by cases hi; exact hd) ?_
        show v' = if e = e then v' else g.ρ e
        rw [if_pos rfl]
      · cases h
    · cases h
  · rename_i o1 v o2 te sz ti2 hx hy ht ht2
    split at h
    · rename_i ys tie hs hte
      split at h
      · rename_i hc
        cases h
        obtain ⟨hd, hc1, hc3, hc4, hc5⟩ := hc
        obtain ⟨h1, h2, h3, h4⟩ := hob
        rw [Option.bind_eq_some_iff] at ht
        obtain ⟨tiT, ht, hel⟩ := ht
        have ex : a.eval x = .slice none 0 0 := inv_nils (evp_sound hR hx h1)
        obtain ⟨news, hsrc, hnv⟩ := src_sound hR (hE _ _ ht2) hc3 hs hc5 h3 (evp_sound hR hy h2)
        have hR0 := hR.setNil hc1 te sz true
        have hr0 : lk d ((d, (⟨te, sz, [], true⟩ : Rw)) :: s.r) = some ⟨te, sz, [], true⟩ := by unfold lk; exact if_pos rfl
        have hown : g.w.ownsRow 0 te sz (.slice none 0 0) 0 [] := ⟨by simp, .inl ⟨rfl, rfl⟩⟩
        obtain ⟨v', w', hrun, hown', hG⟩ := append_row (ty := ty) (hE _ _ ht) hel (hE _ _ hte) hown hsrc (by rw [Nat.zero_add]; exact h4) hc4 (Nat.zero_le _)
        have hρ : (setRho g d (.slice none 0 0)).ρ d = .slice none 0 0 := if_pos rfl
        refine ⟨v', w', by rw [ex]; exact hrun, rowG (setRho g d (.slice none 0 0)) d w' v' (([] ++ ys).length * sz) true, rfl, ?_⟩
        have hap := hR0.append (e := d) hr0 (v' := v') (w' := w') (ys := ys) (cs := []) (news := news) (by simp) (fun i j y p u h => by simp at h)
          (fun y hy => by
            have := List.all_eq_true.1 h3 y hy
            simp only [fits, Bool.and_eq_true, decide_eq_true_eq] at this
            exact this.1.1)
          hnv (by simpa using hown') (by rw [hρ]; exact hG)
        simp only [noRow, Bool.and_eq_true] at hc1
        obtain ⟨⟨n1, n2⟩, n3⟩ := hc1
        simp only [dgT_id n2, dgB_id n3, List.nil_append] at hap
        have hap2 := hap.sub (s := { s with r := (d, ⟨te, sz, ys, true⟩) :: s.r }) ⟨rfl, fun _ _ h => h, fun _ _ h => h, fun t v h => by
          have hdk : dropK d ((d, (⟨te, sz, [], true⟩ : Rw)) :: s.r) = s.r := by
            show (if d = d then dropK d s.r else _) = s.r
            rw [if_pos rfl, dropK_none (by simpa using n1)]
          rw [hdk]
          exact h⟩
        refine hap2.put (some d) (fun i hi => by cases hi; exact hd) ?_
        show v' = if d = d then v' else _
        rw [if_pos rfl]
      · cases h
    · cases h
  · cases h

theorem putEl_cells {y q : PV} {f sz : Nat} (hy : y.cells.length = sz) : (putEl y f sz q).cells = putCells y.cells f q.cells := by
  unfold putEl
  split
  · rename_i h
    obtain ⟨h1, h2⟩ := h
    subst h1
    simp only [putCells, List.take_zero, List.nil_append, Nat.zero_add]
    rw [List.drop_eq_nil_of_le (by omega), List.append_nil]
  · rfl

/-- Does an operation write where something stood? -/
def isD : Op → Bool
  | .store _ _ _ => true
  | .call cl => match cl.callee with
    | .builtin .append => true
    | .builtin .copy => true
    | _ => false
  | _ => false
/-- What an operation does to the machine, in a state. -/
theorem stepU_sound (hE : TEOK P E) (hR : Rel c s g a) {o : Oper} {s' : S} {ob : Prop} (h : stepU E s o.dst o.op = some (s', ob)) (hob : ob) :
    ∃ n w' v, (execOp a.eval o).run P g.w = .ok n w' ∧ (n = .value v ∨ (n = .skip ∧ v = undef)) ∧ (isD o.op = false → Ext g.w w') ∧ ∃ g', g'.w = w' ∧ Rel c s' g' (a.put o.dst v) := by
  unfold stepU at h
  split at h
  · rename_i pv ob' hp
    split at h
    · rename_i hd
      cases h
      obtain ⟨v, h1, h2⟩ := pop_sound hE hR hp hob
      exact ⟨_, _, v, h1 _ (Ex.refl _ _), .inl rfl, fun _ _ _ h => h, g, rfl, hR.put1 hd h2⟩
    · cases h
  · split at h
    · rename_i T d ho hd0
      split at h
      · rename_i ti ht
        split at h
        · rename_i hc
          cases h
          obtain ⟨hd, hf, hfl, hn⟩ := hc
          obtain ⟨i, z, hi, _, _, hz, hzv⟩ := (hE _ _ ht).info
          obtain ⟨ws, hw1, hw2, hw3⟩ := cells_of_V2 hR.rho hfl (hzv g)
          have hb := hR.newBox hf T hw2 hw3 hn
          refine ⟨.value (.pointer (some ⟨g.w.heap.size, 0, none⟩)), _, _, ?_, .inl rfl, fun _ => ext_alloc g.w _, addBox g d T ws, rfl, ?_⟩
          · simp [execOp, ho, Instr.alloc, zeroValue, typeInfo, hi, hz, newVar, newRow, hw1, addBox]
          · rw [hd0]
            refine hb.put (some d) (fun i hi => by cases hi; exact hd) ?_
            show Value.pointer (some ⟨g.w.heap.size, 0, none⟩) = Value.pointer (some ⟨if d = d then g.w.heap.size else g.β d, 0, none⟩)
            rw [if_pos rfl]
        · cases h
      · cases h
    · rename_i T x d ho hd0
      split at h
      · rename_i v o' hx
        split at h
        · rename_i hc
          cases h
          obtain ⟨hd, hf, hfl, hn⟩ := hc
          have hv := evp_sound hR hx hob
          obtain ⟨ws, hw1, hw2, hw3⟩ := cells_of_V2 hR.rho hfl (V2_of_V3 (fun l e => by subst e; cases hfl) hv)
          have hb := hR.newBox hf T hw2 hw3 hn
          refine ⟨.value (.pointer (some ⟨g.w.heap.size, 0, none⟩)), _, _, ?_, .inl rfl, fun _ => ext_alloc g.w _, addBox g d T ws, rfl, ?_⟩
          · simp [execOp, ho, Instr.box, newVar, newRow, hw1, addBox]
          · rw [hd0]
            refine hb.put (some d) (fun i hi => by cases hi; exact hd) ?_
            show Value.pointer (some ⟨g.w.heap.size, 0, none⟩) = Value.pointer (some ⟨if d = d then g.w.heap.size else g.β d, 0, none⟩)
            rw [if_pos rfl]
        · cases h
      · cases h
    · rename_i T p x ho hd0
      split at h
      · rename_i id off o1 v o2 ti hp hx ht
        split at h
        · rename_i bx hbx
          split at h
          · rename_i hc
            cases h
            obtain ⟨hfl, hco, hlen, hfit⟩ := hc
            have e1 := inv_ref (evp_sound hR hp hob.1)
            have hv := evp_sound hR hx hob.2
            obtain ⟨ws, hw1, hw2, hw3⟩ := cells_of_V2 hR.rho hfl (V2_of_V3 (fun l e => by subst e; cases hfl) hv)
            have hb := hR.storeBox hbx hw2 hw3 (by rw [hlen]; exact hfit)
            obtain ⟨⟨cs, hh, hcl, hcv⟩, hmu⟩ := hR.boxes id bx hbx
            have hone : ∀ u ∈ ws, u.oneCell' = true := by
              intro u hu
              obtain ⟨k, hk⟩ := List.getElem?_of_mem hu
              have hkl := (List.getElem?_eq_some_iff.1 hk).1
              have hq : v.cells[k]? = some (v.cells[k]'(by omega)) := List.getElem?_eq_getElem (by omega)
              have hm := List.all_eq_true.1 hco _ (List.mem_of_getElem? hq)
              simp only [Bool.and_eq_true, Bool.not_eq_true'] at hm
              exact one_of_V1 hR.rho hm.1 (fun l e => by rw [e] at hm; cases hm.2) (hw3 k _ u hq hk)
            have hst := run_storeCells_cells (P := P) (g.β id) off ws 0 g.w (fun j hj => by
                rw [cell_of_row g.w (g.β id) _ cs.toArray bx.T (0, 0) hh]
                have : off + 0 + j < cs.length := by omega
                simp; omega) (fun j hj => by
                unfold World.frozen?
                rw [hh]
                simp) hone
            refine ⟨.skip, g.w.setCells (g.β id) off ws, undef, ?_, .inr ⟨rfl, rfl⟩, fun h => (by rw [ho] at h; cases h), { g with w := g.w.setCells (g.β id) off ws }, rfl, ?_⟩
            · have hsz : v.cells.length = ti.size := hlen
              simp only [Nat.add_zero] at hst
              simp [execOp, ho, e1, Instr.storeAt, Instr.sureAddr, storeVar, hw1, ty_size (hE _ _ ht), hw2, hsz, hst]
            · rw [hd0]
              exact hb.sub ⟨rfl, fun _ _ h => h, fun _ _ h => lk_cons_dropK h, fun _ _ h => h⟩
          · cases h
        · cases h
      · rename_i e sz i f o1 v o2 ti hp hx ht
        split at h
        · rename_i r q hr hq
          split at h
          · rename_i hc
            cases h
            obtain ⟨hex, hsz, hco, hlen, hfit⟩ := hc
            obtain ⟨h1, h2, h3⟩ := hob
            obtain ⟨b, n, cap, hb, e1⟩ := evp_sound hR hp h1
            have hv := evp_sound hR hx h2
            obtain ⟨g1, hs1, hw1, hR1⟩ := hR.fzn (rids v)
            have hnt : ∀ l, v ≠ .tup l := fun l e => by subst e; cases hq
            have hq2 := frz_sound hR1 hq (V2_of_V3 hnt (hv.same hs1))
            obtain ⟨ws, hc1, hc2, hc3⟩ := cells_of_RRel hq2
            have hb1 : g1.ρ e = .slice (some ⟨b, 0, none⟩) n cap := by rw [hs1.ρ]; exact hb
            have hy : r.xs[i]? = some (r.xs.getD i .nils) := by simp [List.getD, h3]
            have hyl : (r.xs.getD i .nils).cells.length = sz := by rw [← hsz]; exact row_sz hR1.toHold hr _ (List.mem_of_getElem? hy)
            have hst := hR1.storeRow hr hex hb1 hy hc2 hc3 (putEl_cells (f := f) hyl) (by rw [hlen, hsz]; exact hfit)
            have hone : ∀ u ∈ ws, u.oneCell' = true := by
              intro u hu
              obtain ⟨k, hk⟩ := List.getElem?_of_mem hu
              have hkl := (List.getElem?_eq_some_iff.1 hk).1
              have hqk : q.cells[k]? = some (q.cells[k]'(by omega)) := List.getElem?_eq_getElem (by omega)
              have hm := List.all_eq_true.1 hco _ (List.mem_of_getElem? hqk)
              simp only [Bool.and_eq_true, Bool.not_eq_true'] at hm
              exact one_of_RRel hm.2 (hc3 k _ u hqk hk)
            obtain ⟨cs, ⟨hol, hown⟩, _, _, _⟩ := hR1.rows e r hr
            rcases hown with ⟨h0, _⟩ | ⟨gg, cap', cur, hval, hbase, hheap, hn, hcap, hcur, htake⟩
            · rw [h0] at hb1; cases hb1
            rw [hval] at hb1
            cases hb1
            rw [hw1] at hheap
            have hmul : (i + 1) * r.sz ≤ cap * r.sz := Nat.mul_le_mul_right _ (by omega)
            rw [Nat.add_mul, Nat.one_mul] at hmul
            have hrs := run_storeCells_cells (P := P) b (i * sz + f) ws 0 g.w (fun j hj => by
                rw [cell_of_row g.w b _ cur r.T (0, 0) hheap]
                have : i * sz + f + 0 + j < cur.size := by rw [hcur]; rw [hsz] at hmul ⊢; omega
                simp; omega) (fun j hj => by
                unfold World.frozen?
                rw [hheap]
                simp) hone
            refine ⟨.skip, g.w.setCells b (i * sz + f) ws, undef, ?_, .inr ⟨rfl, rfl⟩, fun h => (by rw [ho] at h; cases h), { g1 with w := g1.w.setCells b (i * r.sz + f) ws }, by rw [hw1, hsz], ?_⟩
            · simp only [Nat.add_zero] at hrs
              have hcv : (a.eval x).cells = ws.toArray := hc1
              simp [execOp, ho, e1, Instr.storeAt, Instr.sureAddr, storeVar, hcv, ty_size (hE _ _ ht), hc2, hlen, hrs]
            · rw [hd0]
              subst hsz
              exact hst.sub ⟨rfl, fun _ _ h => h, fun _ _ h => h, fun _ _ h => lk_cons_dropK h⟩
          · cases h
        · cases h
      · cases h
    · rename_i T len ps d ho hd0
      split at h
      · rename_i hl0
        subst hl0
        split at h
        · rename_i te sz ht
          split at h
          · rename_i hc
            cases h
            obtain ⟨hd, hn, hps⟩ := hc
            rw [Option.bind_eq_some_iff] at ht
            obtain ⟨ti, ht, hel⟩ := ht
            obtain ⟨hu, hsz⟩ := (hE _ _ ht).elem te sz hel
            obtain ⟨g', hg1, hg2, hg3⟩ := hR.newRow hn (T := te) (sz := sz) true (xs := []) (out := []) (by simp) (fun y h => by cases h) (fun i j y p u h => by simp at h) (Nat.zero_le _)
            refine ⟨.value (.slice (some ⟨g.w.heap.size, 0, none⟩) 0 0), _, _, ?_, .inl rfl, fun _ => ext_alloc g.w _, g', hg1, ?_⟩
            · have hps' : ps = #[] := by rw [← Array.toArray_toList (xs := ps), hps]
              have hs := fun w => size_of_map (P := P) hsz w
              have hr0 : Array.map (fun x => (default : Value)) (Array.range 0) = #[] := by simp
              simp [execOp, ho, Instr.buildSlice, run_underlying hu, hs, hps', Instr.fill, newRow]
              try rw [hr0]
            · rw [hd0]
              exact hg2.put (some d) (fun i hi => by cases hi; exact hd) hg3.symm
          · cases h
        · cases h
      · split at h
        · rename_i xs te sz o' hbs
          split at h
          · rename_i hd
            cases h
            obtain ⟨hd, hn⟩ := hd
            obtain ⟨g1, hs1, hw1, hR1⟩ := hR.fzn (partRids s ps.toList)
            obtain ⟨out, hr, hol, hz, hv, hm⟩ := bsOf_sound hE hR1 hbs hob ho
            obtain ⟨g', hg1, hg2, hg3⟩ := hR1.newRow hn (T := te) true hol hz hv hm
            rw [hw1] at hr hg1 hg3
            refine ⟨.value (.slice (some ⟨g.w.heap.size, 0, none⟩) xs.length xs.length), _, _, hr, .inl rfl, fun _ => ext_alloc g.w _, g', hg1, ?_⟩
            rw [hd0]
            exact hg2.put (some d) (fun i hi => by cases hi; show _ < (s.fzn _).n; rw [fzn_n]; exact hd) hg3.symm
          · cases h
        · cases h
    · rename_i cl d ho hd0
      obtain ⟨callee, args, types⟩ := cl
      split at h
      · rename_i x y T tx hcal ha hty
        have ha' : args = #[x, y] := by rw [← Array.toArray_toList (xs := args)]; exact congrArg List.toArray ha
        have hty' : types = #[T, tx] := by rw [← Array.toArray_toList (xs := types)]; exact congrArg List.toArray hty
        simp only at hcal
        subst hcal
        rw [ha', hty'] at ho
        obtain ⟨v, w', hrun, g', hg, hR'⟩ := appOf_sound (ty := o.type) hE hR h hob
        refine ⟨.value v, w', v, ?_, .inl rfl, fun h => (by rw [ho] at h; cases h), g', hg, by rw [hd0]; exact hR'⟩
        simp [execOp, ho, resolve, invoke, builtin, hrun]
      · cases h
    · cases h
end Go.Mh
