/- 'pop' is sound, operation by operation. -/
import Derived.Test.YtlflomhehhcfnaaMhE
namespace Go.Mh
open Go Go.RowKit
variable {P : Program} {E : TE} {c : Ctx} {s : S} {g : G} {a : Act}

theorem evParts_sound (h : Rel c s g a) : ∀ {ps : List (Nat × Operand)} {l : List (Nat × PV)} {ob : Prop}, evParts s ps = some (l, ob) → ob →
    (ps.map fun x => (x.1, a.eval x.2)).length = l.length ∧ ∀ (i : Nat) p v, l[i]? = some p → (ps.map fun x => (x.1, a.eval x.2))[i]? = some v → p.1 = v.1 ∧ V3 g p.2 v.2
  | [], _, _, h1, _ => by
    simp only [evParts, Option.some.injEq, Prod.mk.injEq] at h1
    rw [← h1.1]
    exact ⟨rfl, fun i p v h2 => by simp at h2⟩
  | (i, x) :: r, l, ob, h1, ho => by
    unfold evParts at h1
    split at h1
    · rename_i v o l' p' hv hr
      cases h1
      have ih := evParts_sound h hr ho.2
      refine ⟨by simpa using ih.1, fun k q u hq hu => ?_⟩
      cases k with
      | zero =>
        simp at hq hu
        subst hq; subst hu
        exact ⟨rfl, evp_sound h hv ho.1⟩
      | succ k => exact ih.2 k q u (by simpa using hq) (by simpa using hu)
    · cases h1

theorem box_load (h : Rel c s g a) {id : Nat} {bx : Bx} (hb : lk id s.b = some bx) :
    ∃ u : Nat → Value, (∀ j, j < bx.l.length → g.w.cell? ⟨g.β id, j, none⟩ = some (u j)) ∧ ∀ (j : Nat) p, bx.l[j]? = some p → V1 g p (u j) := by
  obtain ⟨⟨cs, hh, hl, hv⟩, _⟩ := h.boxes id bx hb
  refine ⟨fun j => cs.getD j undef, fun j hj => ?_, fun j p hp => ?_⟩
  · rw [cell_of_row g.w (g.β id) j cs.toArray bx.T (0, 0) hh]
    have : j < cs.length := by omega
    simp [this]
  · have hj := (List.getElem?_eq_some_iff.1 hp).1
    have hjc : j < cs.length := by omega
    refine hv j p _ hp ?_
    simp [hjc]

theorem row_sz {b : List (Nat × Bx)} {rr : List (Nat × Rw)} (h : Hold g b rr) {e : Nat} {r : Rw} (hr : lk e rr = some r) (x : PV) (hx : x ∈ r.xs) : x.cells.length = r.sz := by
  obtain ⟨cs, _, hsz, _⟩ := h.rows e r hr
  exact hsz x hx
theorem row_load {b : List (Nat × Bx)} {rr : List (Nat × Rw)} (h : Hold g b rr) {e : Nat} {r : Rw} (hr : lk e rr = some r) {k n cap : Nat} (hb : g.ρ e = .slice (some ⟨k, 0, none⟩) n cap) {i : Nat} (hi : i < r.xs.length) :
    ∃ u : Nat → Value, (∀ j, j < r.sz → g.w.cell? ⟨k, i * r.sz + j, none⟩ = some (u j)) ∧ ∀ (j : Nat) p, (r.xs[i]).cells[j]? = some p → RRel g.w g.mu p (u j) := by
  obtain ⟨cs, ⟨hlen, hv⟩, hsz, hcs, hmu⟩ := h.rows e r hr
  rcases hv with ⟨h0, _⟩ | ⟨gg, cap', cur, hval, hbase, hheap, hn, hcap, hcur, htake⟩
  · rw [h0] at hb; cases hb
  · rw [hval] at hb
    cases hb
    have hbb : ∀ j, j < r.sz → i * r.sz + j < r.xs.length * r.sz := fun j hj => by
      have : (i + 1) * r.sz ≤ r.xs.length * r.sz := Nat.mul_le_mul_right _ hi
      rw [Nat.add_mul] at this
      omega
    refine ⟨fun j => cs.getD (i * r.sz + j) undef, fun j hj => ?_, fun j p hp => ?_⟩
    · have hc := hbb j hj
      rw [cell_of_row g.w _ _ cur r.T (0, 0) hheap]
      have : cs[i * r.sz + j]? = cur[i * r.sz + j]? := by rw [← htake, List.getElem?_take_of_lt hc, Array.getElem?_toList]
      rw [← this]
      simp [hlen, hc]
    · have hj := (List.getElem?_eq_some_iff.1 hp).1
      rw [hsz _ (List.getElem_mem hi)] at hj
      have hc := hbb j hj
      exact hcs i j _ p _ (List.getElem?_eq_getElem hi) hp (by simp [hlen, hc])

theorem pop_load (hE : TEOK P E) (hR : Rel c s g a) {o : Oper} {T : TypeId} {p : Operand} (ho : o.op = .load T p) {pv : PV} {ob : Prop} (h : pop E s (.load T p) = some (pv, ob)) (hob : ob) :
    ∃ v, (∀ w', Ex o g.w w' → (execOp a.eval o).run P w' = .ok (.value v) w') ∧ V3 g pv v := by
  have hL : isLoad o.op = true := by rw [ho]; rfl
  have hx : ∀ v w', (Instr.loadAt T (a.eval p)).run P w' = .ok v w' → (execOp a.eval o).run P w' = .ok (.value v) w' := by
    intro v w' hv
    simp [execOp, ho, hv]
  simp only [pop] at h
  split at h
  · rename_i l o' ti hp ht
    rw [Option.map_eq_some_iff] at h
    obtain ⟨q, hq, e⟩ := h
    cases e
    obtain ⟨ad, u, e1, h1, h2⟩ := inv_eptr (evp_sound hR hp hob)
    obtain ⟨v, hv, hv3⟩ := mkAt_load (P := P) (hE _ _ ht) hq ad u (fun j p hj => .of (h2 j p hj))
    exact ⟨v, fun w' hw0 => have hw := hw0 hL; hx v w' (by rw [e1]; exact hv w' (fun j _ hj => hw _ _ (by simpa using (h1 j hj).2))), hv3⟩
  · rename_i id off o' ti hp ht
    split at h
    · rename_i bx hbx
      rw [Option.map_eq_some_iff] at h
      obtain ⟨q, hq, e⟩ := h
      cases e
      have e1 := inv_ref (evp_sound hR hp hob)
      obtain ⟨u, h1, h2⟩ := box_load hR hbx
      obtain ⟨v, hv, hv3⟩ := mkAt_load (P := P) (hE _ _ ht) hq ⟨g.β id, off, none⟩ u h2
      exact ⟨v, fun w' hw0 => have hw := hw0 hL; hx v w' (by rw [e1]; exact hv w' (fun j hj1 hj => by
        have : (⟨g.β id, off, none⟩ : Addr).add (j - off) = ⟨g.β id, j, none⟩ := by rw [Addr.add_mid]; congr 1; omega
        rw [this]; exact hw _ _ (h1 j hj))), hv3⟩
    · cases h
  · rename_i e sz i f o' ti hp ht
    split at h
    · rename_i r hr
      split at h
      · rename_i hsr
        rw [Option.map_eq_some_iff] at h
        obtain ⟨q, hq, e⟩ := h
        cases e
        obtain ⟨b, n, cap, hb, e1⟩ := evp_sound hR hp hob.1
        obtain ⟨u, h1, h2⟩ := row_load hR.toHold hr hb hob.2
        have hgd : r.xs.getD i .nils = r.xs[i]'hob.2 := by simp [List.getD, hob.2]
        rw [hgd] at hq
        have hlen := (row_sz hR.toHold hr _ (List.getElem_mem hob.2))
        obtain ⟨v, hv, hv3⟩ := mkAt_load (P := P) (hE _ _ ht) hq ⟨b, i * sz + f, none⟩ u (fun j p hj => .of (h2 j p hj))
        refine ⟨v, fun w' hw0 => have hw := hw0 hL; hx v w' ?_, hv3⟩
        rw [e1]
        refine hv w' fun j hj1 hj => ?_
        have : (⟨b, i * sz + f, none⟩ : Addr).add (j - f) = ⟨b, i * r.sz + j, none⟩ := by rw [Addr.add_mid, hsr]; congr 1; omega
        rw [this]
        exact hw _ _ (h1 j (by rw [← hlen]; exact hj))
      · cases h
    · cases h
  · cases h

theorem pop_fieldAddr (hE : TEOK P E) (hR : Rel c s g a) {o : Oper} {T : TypeId} {p : Operand} {f : Nat} (ho : o.op = .fieldAddr T p f) {pv : PV} {ob : Prop} (h : pop E s (.fieldAddr T p f) = some (pv, ob)) (hob : ob) :
    ∃ v, (∀ w', Ex o g.w w' → (execOp a.eval o).run P w' = .ok (.value v) w') ∧ V3 g pv v := by
  have hx : ∀ v w', (Instr.fieldAt T (a.eval p) f).run P w' = .ok v w' → (execOp a.eval o).run P w' = .ok (.value v) w' := by
    intro v w' hv
    simp [execOp, ho, hv]
  simp only [pop] at h
  split at h
  · rename_i l o' fl hp ht
    rw [Option.bind_eq_some_iff] at ht
    obtain ⟨ti, ht, hf⟩ := ht
    split at h
    · rename_i x hx'
      cases h
      obtain ⟨ad, u, e1, h1, h2⟩ := inv_eptr (evp_sound hR hp hob)
      refine ⟨_, fun w' _ => hx _ w' (by rw [e1]; exact run_fieldAt (hE _ _ ht) hf hx' ad w'), (RRel.eptr _ (ad.add x.off) (fun j => u (x.off + j)) (fun j hj => ?_) (fun j q hq => ?_) : RRel g.w g.mu _ _)⟩
      · rw [add_add']
        exact h1 _ (by simp at hj; omega)
      · rw [List.getElem?_drop] at hq
        exact h2 _ q hq
    · cases h
  · rename_i id off o' fl hp ht
    rw [Option.bind_eq_some_iff] at ht
    obtain ⟨ti, ht, hf⟩ := ht
    split at h
    · rename_i x hx'
      cases h
      have e1 := inv_ref (evp_sound hR hp hob)
      refine ⟨_, fun w' _ => hx _ w' (by rw [e1]; exact run_fieldAt (hE _ _ ht) hf hx' _ w'), ?_⟩
      show _ = Value.pointer (some _)
      rw [Addr.add_mid]
    · cases h
  · rename_i e sz i f' o' fl hp ht
    rw [Option.bind_eq_some_iff] at ht
    obtain ⟨ti, ht, hf⟩ := ht
    split at h
    · rename_i x hx'
      cases h
      obtain ⟨b, n, cap, hb, e1⟩ := evp_sound hR hp hob
      refine ⟨_, fun w' _ => hx _ w' (by rw [e1]; exact run_fieldAt (hE _ _ ht) hf hx' _ w'), b, n, cap, hb, ?_⟩
      rw [Addr.add_mid, Nat.add_assoc]
    · cases h
  · cases h

theorem part_sound {T : TypeId} {sz : Nat} {ag : Bool} {d : TypeDesc} (hd : P.underlying T = some d) (hr : d.isRow = ag) (hs : (P.info? T).map (·.size) = some sz) {l : List PV} {off : Nat} {q : PV}
    (hm : mkAt { size := sz, agg := ag, zero := .nils } l off = some q) {vs : List Value} (hl : vs.length = l.length) (hv : ∀ (i : Nat) p u, l[i]? = some p → vs[i]? = some u → V1 g p u) :
    ∃ v, (∀ w, (part T vs.toArray off).run P w = .ok v w) ∧ V3 g q v := by
  have hag : ∀ w, (isAgg T).run P w = .ok ag w := by
    intro w
    unfold isAgg
    rw [Sem.run_bind, run_underlying hd w, ← hr]
    cases d <;> rfl
  unfold mkAt at hm
  split at hm
  · rename_i ha
    simp only at ha
    subst ha
    split at hm
    · rename_i hb
      cases hm
      refine ⟨.agg (vs.toArray.extract off (off + sz)), fun w => by simp [part, hag, size_of_map hs], (vs.drop off).take sz, ?_, ?_, fun i p u h1 h2 => ?_⟩
      · simp [List.extract_eq_take_drop]
      · simp [hl]
      · by_cases hi : i < sz
        · rw [List.getElem?_take_of_lt hi, List.getElem?_drop] at h1 h2
          exact hv _ p u h1 h2
        · simp [List.getElem?_take, hi] at h1
    · cases hm
  · rename_i ha
    have ha : ag = false := by simpa using ha
    subst ha
    cases hd' : l.drop off with
    | nil => rw [hd'] at hm; cases hm
    | cons x r =>
      rw [hd'] at hm
      cases hm
      have h0 : l[off]? = some q := by
        have := congrArg (fun q => q[0]?) hd'
        simpa using this
      have hlt := (List.getElem?_eq_some_iff.1 h0).1
      have h1 : vs[off]? = some (vs[off]'(by omega)) := List.getElem?_eq_getElem (by omega)
      exact ⟨_, fun w => by simp [part, hag, h1], .of1 (hv off q _ h0 h1)⟩

theorem pop_field (hE : TEOK P E) (hR : Rel c s g a) {o : Oper} {T : TypeId} {x : Operand} {f : Nat} (ho : o.op = .field T x f) {pv : PV} {ob : Prop} (h : pop E s (.field T x f) = some (pv, ob)) (hob : ob) :
    ∃ v, (∀ w', Ex o g.w w' → (execOp a.eval o).run P w' = .ok (.value v) w') ∧ V3 g pv v := by
  simp only [pop] at h
  split at h
  · rename_i l o' fl hp ht
    rw [Option.bind_eq_some_iff] at ht
    obtain ⟨ti, ht, hf⟩ := ht
    split at h
    · rename_i d hd
      rw [Option.map_eq_some_iff] at h
      obtain ⟨q, hq, e⟩ := h
      cases e
      obtain ⟨vs, e1, hl, hv⟩ := evp_sound hR hp hob
      obtain ⟨fs, hu, hok⟩ := (hE _ _ ht).flds fl hf
      obtain ⟨fd, h1, h2, h3, _, dd, h5, h6⟩ := fldOk_at hok hd
      rw [Array.getElem?_toList] at h1
      obtain ⟨v, hv1, hv3⟩ := part_sound (P := P) h5 h6 h3 hq hl hv
      refine ⟨v, fun w' _ => ?_, hv3⟩
      simp [execOp, ho, Instr.field, run_underlying hu, h1, e1, asAgg, h2, hv1]
    · cases h
  · cases h

theorem getD_cells {xs : List PV} {n : Nat} (h : n < xs.length) : xs.getD n .nils = xs[n] := by simp [List.getD, h]

theorem pop_indexAddr (hE : TEOK P E) (hR : Rel c s g a) {o : Oper} {T : TypeId} {x i : Operand} (ho : o.op = .indexAddr T x i) {pv : PV} {ob : Prop} (h : pop E s (.indexAddr T x i) = some (pv, ob)) (hob : ob) :
    ∃ v, (∀ w', Ex o g.w w' → (execOp a.eval o).run P w' = .ok (.value v) w') ∧ V3 g pv v := by
  simp only [pop] at h
  split at h
  · rename_i xs o1 k n o2 e sz hp hi ht
    rw [Option.bind_eq_some_iff] at ht
    obtain ⟨ti, ht, hf⟩ := ht
    cases h
    obtain ⟨ho1, ho2, h0, h1, h2⟩ := hob
    obtain ⟨A, cc, sz', u, e1, hc, hm, hsz, hA, hu⟩ := inv_sl (evp_sound hR hp ho1)
    have e2 := inv_int (evp_sound hR hi ho2)
    obtain ⟨hun, hsize⟩ := (hE _ _ ht).elem _ _ hf
    have hlt : n.toNat < xs.length := by omega
    rw [getD_cells hlt] at h2 ⊢
    have hne : xs ≠ [] := by intro h; subst h; simp at hlt
    obtain ⟨ad, rfl, hcell⟩ := hA hne
    have hszz : sz' = sz := by rw [← h2, hsz _ (List.getElem_mem hlt)]
    subst hszz
    refine ⟨.pointer (some (ad.add (n.toNat * sz'))), fun w' _ => ?_, (RRel.eptr _ (ad.add (n.toNat * sz')) (fun j => u n.toNat j) (fun j hj => ?_) (fun j q hq => ?_) : RRel g.w g.mu _ _)⟩
    · simp [execOp, ho, Instr.indexAt, run_underlying hun, e1, e2, asIntOf, h0, h1, size_of_map hsize]
    · rw [add_add']
      exact hcell _ _ hlt (by rw [h2] at hj; exact hj)
    · exact hu n.toNat j _ q (List.getElem?_eq_getElem hlt) hq
  · rename_i e' o1 k n o2 e sz hp hi ht
    rw [Option.bind_eq_some_iff] at ht
    obtain ⟨ti, ht, hf⟩ := ht
    split at h
    · rename_i r hr
      split at h
      · rename_i hsr
        cases h
        obtain ⟨ho1, ho2, h0, h1⟩ := hob
        have e1 : a.eval x = g.ρ e' := evp_sound hR hp ho1
        have e2 := inv_int (evp_sound hR hi ho2)
        obtain ⟨hun, hsize⟩ := (hE _ _ ht).elem _ _ hf
        obtain ⟨cs, hown, hsz, hcs, hmu⟩ := hR.rows e' r hr
        have hlt : n.toNat < r.xs.length := by omega
        rw [getD_cells hlt]
        obtain ⟨hlen, hv⟩ := hown
        rcases hv with ⟨_, h00⟩ | ⟨gg, cap, cur, hval, hbase, hheap, hn, hcap, hcur, htake⟩
        · omega
        · rw [hval] at e1
          have hcell : ∀ j, j < r.sz → g.w.cell? ⟨gg, n.toNat * r.sz + j, none⟩ = cs[n.toNat * r.sz + j]? := by
            intro j hj
            rw [cell_of_row g.w gg _ cur r.T (0, 0) hheap, ← htake]
            have hb : n.toNat * r.sz + j < r.xs.length * r.sz := by
              have : (n.toNat + 1) * r.sz ≤ r.xs.length * r.sz := Nat.mul_le_mul_right _ hlt
              rw [Nat.add_mul] at this
              omega
            rw [List.getElem?_take_of_lt hb, Array.getElem?_toList]
          have hb : ∀ j, j < r.sz → n.toNat * r.sz + j < cs.length := by
            intro j hj
            rw [hlen]
            have : (n.toNat + 1) * r.sz ≤ r.xs.length * r.sz := Nat.mul_le_mul_right _ hlt
            rw [Nat.add_mul] at this
            omega
          have hl : (r.xs[n.toNat]).cells.length = r.sz := hsz _ (List.getElem_mem hlt)
          have hmu' := (hmu gg (by rw [hval]; rfl)).1
          refine ⟨.pointer (some ⟨gg, n.toNat * r.sz, none⟩), fun w' _ => ?_, ?_⟩
          · have hadd : (⟨gg, 0, none⟩ : Addr).add (n.toNat * sz) = ⟨gg, n.toNat * r.sz, none⟩ := by rw [Addr.add_mid, hsr]; simp
            simp [execOp, ho, Instr.indexAt, run_underlying hun, e1, e2, asIntOf, h0, h1, size_of_map hsize, hadd]
          by_cases hex : r.ex = true
          · rw [if_pos hex]
            exact ⟨gg, _, cap, hval, by rw [hsr, Nat.add_zero]⟩
          rw [if_neg hex]
          refine (RRel.eptr _ _ (fun j => cs.getD (n.toNat * r.sz + j) undef) (fun j hj => ?_) (fun j q hq => ?_) : RRel g.w g.mu _ _)
          · rw [hl] at hj
            rw [Addr.add_mid, hcell j hj]
            refine ⟨fun h => hex ((hmu' _ (by rw [← hlen]; exact hb j hj)).1 h), ?_⟩
            simp [hb j hj]
          · have hj := (List.getElem?_eq_some_iff.1 hq).1
            rw [hl] at hj
            refine hcs n.toNat j _ q _ (List.getElem?_eq_getElem hlt) hq ?_
            simp [hb j hj]
      · cases h
    · cases h
  · cases h
end Go.Mh
