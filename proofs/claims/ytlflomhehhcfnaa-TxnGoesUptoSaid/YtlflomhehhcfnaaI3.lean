/- slices.Insert in the middle, as a contract -/
import Derived.Test.YtlflomhehhcfnaaI2
import Derived.Test.YtlflomhehhcfnaaTy
namespace Go.Proofs.Ytlflomhehhcfnaa
open Go Go.Mh Go.RowKit

section
variable {g : G} {l : List OpS} {o : OpS} {i : Nat} {cur curb F : Array Value}
def InCells (g : G) (l : List OpS) (cur : Array Value) : Prop := ∀ (i j : Nat) y p u, (l.map OpS.pv)[i]? = some y → y.cells[j]? = some p → cur[i * 3 + j]? = some u → RRel g.w g.mu p u

theorem pv_cells (o : OpS) : o.pv.cells = [.str o.key, .bool o.dead, .str o.val] := rfl
theorem ones (h : InCells g l cur) (m : Nat) (hm : m < l.length * 3) (u : Value) (hu : cur[m]? = some u) : u.oneCell' = true := by
  have h1 : m / 3 < l.length := by omega
  have hj : m % 3 < ((l[m / 3]).pv.cells).length := by rw [pv_cells]; simp; omega
  have hp := h (m / 3) (m % 3) _ _ u (by rw [List.getElem?_map, List.getElem?_eq_getElem h1]; rfl) (List.getElem?_eq_getElem hj) (by rw [← hu]; congr 1; omega)
  refine one_of_RRel ?_ hp
  have hall : ∀ p ∈ (l[m / 3]).pv.cells, p.isAgg = false := by rw [pv_cells]; simp [PV.isAgg]
  exact hall _ (List.getElem_mem hj)

theorem spliced (hi : i ≤ l.length) (ha : ∀ q, q < i * 3 → F[q]? = cur[q]?) (hb : ∀ q, q < 3 → F[i * 3 + q]? = curb[q]?) (hc : ∀ q, q < (l.length - i) * 3 → F[(i + 1) * 3 + q]? = cur[i * 3 + q]?)
    (h1 : InCells g l cur) (h2 : InCells g [o] curb) : InCells g (l.take i ++ o :: l.drop i) F := by
  intro m j y p u hy hp hu
  have hj : j < 3 := by
    have := (List.getElem?_eq_some_iff.1 hp).1
    rw [List.getElem?_map, Option.map_eq_some_iff] at hy
    obtain ⟨x, _, rfl⟩ := hy
    rw [pv_cells] at this
    simpa using this
  rw [List.getElem?_map, Option.map_eq_some_iff] at hy
  obtain ⟨x, hx, rfl⟩ := hy
  have hlt : (l.take i).length = i := by rw [List.length_take]; omega
  rcases Nat.lt_or_ge m i with hm | hm
  · rw [List.getElem?_append_left (by omega), List.getElem?_take_of_lt hm] at hx
    refine h1 m j _ p u (by rw [List.getElem?_map, hx]; rfl) hp ?_
    rw [← ha _ (by omega)]; exact hu
  · rw [List.getElem?_append_right (by omega), hlt] at hx
    rcases Nat.eq_or_lt_of_le hm with hm | hm
    · subst hm
      rw [Nat.sub_self] at hx
      simp at hx
      subst hx
      refine h2 0 j _ p u rfl hp ?_
      rw [Nat.zero_mul, Nat.zero_add, ← hb j hj]
      exact hu
    · obtain ⟨q, rfl⟩ : ∃ q, m = i + 1 + q := ⟨m - (i + 1), by omega⟩
      rw [show i + 1 + q - i = q + 1 by omega] at hx
      simp only [List.getElem?_cons_succ, List.getElem?_drop] at hx
      have hql : i + q < l.length := (List.getElem?_eq_some_iff.1 hx).1
      refine h1 (i + q) j _ p u (by rw [List.getElem?_map, hx]; rfl) hp ?_
      have := hc (q * 3 + j) (by omega)
      rw [show (i + q) * 3 + j = i * 3 + (q * 3 + j) by omega, ← this, ← hu]
      congr 1
      omega
end

theorem toList_get {cur : Array Value} {q : Nat} : cur.toList[q]? = cur[q]? := Array.getElem?_toList

theorem put_get (L : List Value) (o : Nat) (vs : List Value) (h : o + vs.length ≤ L.length) (q : Nat) :
    (L.take o ++ vs ++ L.drop (o + vs.length))[q]? = if q < o then L[q]? else if q < o + vs.length then vs[q - o]? else L[q]? := by
  simp only [List.getElem?_append, List.getElem?_take, List.getElem?_drop, List.length_append, List.length_take]
  have e : min o L.length = o := by omega
  rw [e]
  by_cases h1 : q < o
  · rw [if_pos (by omega), if_pos h1, if_pos h1, if_pos h1]
  · by_cases h2 : q < o + vs.length
    · rw [if_pos h2, if_neg h1, if_neg h1, if_pos h2]
    · rw [if_neg h2, if_neg h1, if_neg h2]
      congr 1; omega

set_option maxHeartbeats 1000000 in
theorem insert_mid (l : List OpS) (o : OpS) (i : Nat) (hi : i < l.length) (hl : l.length ≤ 1048576) :
    Owns Try.prog 33 [.row 500, .int .i64 i, .row 40] [] [(500, ⟨32, 3, l.map OpS.pv, true⟩), (40, ⟨32, 3, [o.pv], true⟩)] (.row 500) [] [(500, ⟨32, 3, (l.take i ++ o :: l.drop i).map OpS.pv, true⟩)] := by
  refine ⟨enter_of Try.func33 rfl rfl, fun g vs hlim hrho hH hlv hv => ?_⟩
  match vs, hlv with
  | [v0, v1, v2], _ =>
  have e0 : v0 = g.ρ 500 := hv 0 _ v0 rfl rfl
  have e1 : v1 = .int .i64 i := inv_int (V3.of2 (hv 1 _ v1 rfl rfl))
  have e2 : v2 = g.ρ 40 := hv 2 _ v2 rfl rfl
  subst e0; subst e1; subst e2
  have hr0 : lk 500 [(500, (⟨32, 3, l.map OpS.pv, true⟩ : Rw)), (40, ⟨32, 3, [o.pv], true⟩)] = some ⟨32, 3, l.map OpS.pv, true⟩ := rfl
  have hr1 : lk 40 [(500, (⟨32, 3, l.map OpS.pv, true⟩ : Rw)), (40, ⟨32, 3, [o.pv], true⟩)] = some ⟨32, 3, [o.pv], true⟩ := rfl
  rcases hH.row_mem hr0 with ⟨_, h⟩ | ⟨k, cap, cur, hval, hheap, hn, hm, hcur, hown, hz, hin⟩
  · have : l = [] := by simpa using h
    rw [this] at hi; simp at hi
  rcases hH.row_mem hr1 with ⟨_, h⟩ | ⟨kb, capb, curb, hvalb, hheapb, hnb, hmb, hcurb, hownb, hzb, hinb⟩
  · cases h
  simp only [List.length_map, List.length_cons, List.length_nil] at hn hnb hval hvalb hcur hcurb
  have hin' : InCells g l cur := hin
  have hinb' : InCells g [o] curb := hinb
  have hkb : kb ≠ k := fun e => hH.rrow 500 _ 40 _ k hr0 hr1 (by decide) (by rw [hval]; rfl) (by rw [hvalb, e]; rfl)
  have hklt : k < g.w.heap.size := (Array.getElem?_eq_some_iff.1 hheap).1
  have hfz : ∀ q, g.w.frozen? ⟨k, q, none⟩ = false := fun q => by unfold World.frozen?; rw [hheap]; simp
  have hfzb : ∀ q, g.w.frozen? ⟨kb, q, none⟩ = false := fun q => by unfold World.frozen?; rw [hheapb]; simp
  have hcell : ∀ q, g.w.cell? ⟨k, q, none⟩ = cur[q]? := fun q => cell_of_row g.w k q cur 32 (0, 0) hheap
  have hcellb : ∀ q, g.w.cell? ⟨kb, q, none⟩ = curb[q]? := fun q => cell_of_row g.w kb q curb 32 (0, 0) hheapb
  obtain ⟨cs, hcs⟩ : ∃ cs, cs = cur.toList.take (l.length * 3) := ⟨_, rfl⟩
  obtain ⟨us, hus⟩ : ∃ us, us = curb.toList.take 3 := ⟨_, rfl⟩
  have hcl : cs.length = l.length * 3 := by
    have := Array.length_toList (xs := cur)
    rw [hcs, List.length_take]; omega
  have hul : us.length = 3 := by
    have := Array.length_toList (xs := curb)
    rw [hus, List.length_take]; omega
  have hcg : ∀ q, q < l.length * 3 → cs[q]? = cur[q]? := fun q hq => by rw [hcs, List.getElem?_take_of_lt hq, toList_get]
  have hug : ∀ q, q < 3 → us[q]? = curb[q]? := fun q hq => by rw [hus, List.getElem?_take_of_lt hq, toList_get]
  have hone : ∀ v ∈ cs, v.oneCell' = true := fun v hv' => by
    obtain ⟨q, hq⟩ := List.getElem?_of_mem hv'
    have hql := (List.getElem?_eq_some_iff.1 hq).1
    rw [hcl] at hql
    exact ones hin' q hql v (by rw [← hcg q hql]; exact hq)
  have honeb : ∀ v ∈ us, v.oneCell' = true := fun v hv' => by
    obtain ⟨q, hq⟩ := List.getElem?_of_mem hv'
    have hql := (List.getElem?_eq_some_iff.1 hq).1
    rw [hul] at hql
    exact ones hinb' q (by simpa using hql) v (by rw [← hug q hql]; exact hq)
  have hdl : (cs.drop (i * 3)).length = (l.length - i) * 3 := by rw [List.length_drop, hcl]; omega
  have hnl : (l.take i ++ o :: l.drop i).length = l.length + 1 := by
    simp only [List.length_append, List.length_take, List.length_cons, List.length_drop]; omega
  have hcells : ∀ y ∈ (l.take i ++ o :: l.drop i).map OpS.pv, y.cells.length = 3 := fun y hy => by
    obtain ⟨x, _, rfl⟩ := List.mem_map.1 hy; rfl
  rcases Nat.lt_or_ge cap (l.length + 1) with hroom | hroom
  · have hg := insert_grow_raw k cap i l.length kb capb cs us g.w hi hn hroom (by omega) hcl hul
      (fun j v hj => by
        have hjl := (List.getElem?_eq_some_iff.1 hj).1
        rw [hcl] at hjl
        rw [hcell, ← hcg j hjl]; exact hj)
      (fun j v hj => by
        have hjl := (List.getElem?_eq_some_iff.1 hj).1
        rw [hul] at hjl
        rw [hcellb, ← hug j hjl]; exact hj) hone honeb
    rw [hval, hvalb]
    refine hg.mono fun e w' ⟨Gc, ROW, he, hG1, hG2, hR1, hR2, hw'⟩ => ?_
    subst hw'
    have hRl := Array.length_toList (xs := ROW)
    have q0 : ((g.w.alloc (.cells ROW 32)).drew).heap[g.w.heap.size]? = some (.cells ROW.toList.toArray 32 (0, 0)) := by
      rw [Array.toArray_toList]; exact Go.heap_alloc_new g.w _
    have q1 := heap_setCells_same g.w.heap.size 32 (0, 0) us (i * 3) _ _ q0 (by rw [hul, hRl]; omega)
    obtain ⟨L1, hL1⟩ : ∃ L1, L1 = ROW.toList.take (i * 3) ++ us ++ ROW.toList.drop (i * 3 + us.length) := ⟨_, rfl⟩
    have hL1l : L1.length = Gc * 3 := by rw [hL1]; simp only [List.length_append, List.length_take, List.length_drop]; omega
    have hL1g : ∀ q, L1[q]? = if q < i * 3 then ROW.toList[q]? else if q < i * 3 + us.length then us[q - i * 3]? else ROW.toList[q]? := fun q => by rw [hL1]; exact put_get _ _ _ (by omega) q
    rw [← hL1] at q1
    have q2 := heap_setCells_same g.w.heap.size 32 (0, 0) (cs.drop (i * 3)) ((i + 1) * 3) (((g.w.alloc (.cells ROW 32)).drew.setCells g.w.heap.size (i * 3) us).drew) L1 q1 (by omega)
    obtain ⟨L2, hL2⟩ : ∃ L2, L2 = L1.take ((i + 1) * 3) ++ cs.drop (i * 3) ++ L1.drop ((i + 1) * 3 + (cs.drop (i * 3)).length) := ⟨_, rfl⟩
    have hL2l : L2.length = Gc * 3 := by rw [hL2]; simp only [List.length_append, List.length_take, List.length_drop] at hdl ⊢; omega
    have hL2g : ∀ q, L2[q]? = if q < (i + 1) * 3 then L1[q]? else if q < (i + 1) * 3 + (cs.drop (i * 3)).length then (cs.drop (i * 3))[q - (i + 1) * 3]? else L1[q]? := fun q => by rw [hL2]; exact put_get _ _ _ (by omega) q
    rw [← hL2] at q2
    have hRg : ∀ q, q < i * 3 → ROW.toList[q]? = cur[q]? := fun q hq => by
      have := congrArg (fun x => x[q]?) hR2
      simp only [List.getElem?_take_of_lt hq] at this
      rw [this, hcg q (by omega)]
    have hF : InCells g (l.take i ++ o :: l.drop i) L2.toArray := spliced (by omega)
      (fun q hq => by rw [List.getElem?_toArray, hL2g, if_pos (by omega), hL1g, if_pos hq, hRg q hq])
      (fun q hq => by rw [List.getElem?_toArray, hL2g, if_pos (by omega), hL1g, if_neg (by omega), if_pos (by omega), show i * 3 + q - i * 3 = q by omega, hug q hq])
      (fun q hq => by rw [List.getElem?_toArray, hL2g, if_neg (by omega), if_pos (by omega), show (i + 1) * 3 + q - (i + 1) * 3 = q by omega, List.getElem?_drop, hcg _ (by omega)]) hin' hinb'
    have hB0 : Below 0 g.w (g.w.alloc (.cells ROW 32)).drew := ⟨rfl, rfl, rfl, by show g.w.heap.size ≤ (g.w.heap.push _).size; simp, fun j hj => absurd hj (Nat.not_lt_zero _)⟩
    have hB1 := Mh.below_setCells (B := 0) (w0 := g.w) g.w.heap.size (Nat.zero_le _) us (i * 3) _ hB0
    have hB2 : Below 0 g.w ((g.w.alloc (.cells ROW 32)).drew.setCells g.w.heap.size (i * 3) us).drew := ⟨hB1.os, hB1.tape, hB1.output, hB1.size, fun j hj => absurd hj (Nat.not_lt_zero _)⟩
    have hB3 := Mh.below_setCells (B := 0) (w0 := g.w) g.w.heap.size (Nat.zero_le _) (cs.drop (i * 3)) ((i + 1) * 3) _ hB2
    obtain ⟨g', hgw, hend⟩ := OwnsEnd.row (e := 500) (T := 32) (sz := 3) (n := l.length + 1) (cap := Gc) (k := g.w.heap.size) (cur := L2.toArray) (xs := (l.take i ++ o :: l.drop i).map OpS.pv) hH hlim hrho rfl (by rw [List.length_map, hnl]) (.inr (Nat.le_refl _)) q2 hG1 hG2 (by simpa using hL2l)
      hB3.os hB3.tape hB3.output
      (by rw [size_setCells]; show g.w.heap.size ≤ ((g.w.alloc (.cells ROW 32)).drew.setCells g.w.heap.size (i * 3) us).heap.size; rw [size_setCells]; show g.w.heap.size ≤ (g.w.heap.push _).size; simp)
      (fun j hj _ => by
        rw [heap_setCells_other _ j (by omega)]
        show ((g.w.alloc (.cells ROW 32)).drew.setCells g.w.heap.size (i * 3) us).heap[j]? = _
        rw [heap_setCells_other _ j (by omega)]
        first | exact _root_.Go.heap_alloc_old g.w _ j hj | exact Go.heap_alloc_old g.w _ j hj | exact Go.heap_alloc_old g.w _ hj) hcells hF
    exact ⟨_, g', he, hgw, hend⟩
  · have hs := insert_shift_raw k cap i l.length kb capb cs us g.w hi hroom (by unfold maxLen at hm; omega) hkb hcl hul
      (fun j v hj => by
        have hjl := (List.getElem?_eq_some_iff.1 hj).1
        rw [hcl] at hjl
        rw [hcell, ← hcg j hjl]; exact hj)
      (fun j hj => by rw [hcell, Array.getElem?_eq_getElem (by omega)]; rfl) (fun j _ => hfz j)
      (fun j v hj => by
        have hjl := (List.getElem?_eq_some_iff.1 hj).1
        rw [hul] at hjl
        rw [hcellb, ← hug j hjl]; exact hj) hone honeb 32 32 curb.size cur.size (by unfold World.shape?; rw [hheapb]) (by unfold World.shape?; rw [hheap]) (by omega) (hfzb 0) (hfzb _)
    rw [hval, hvalb]
    refine hs.mono fun e w' ⟨he, hw'⟩ => ?_
    subst hw'
    have hCl := Array.length_toList (xs := cur)
    have q0 : (g.w.drew).heap[k]? = some (.cells cur.toList.toArray 32 (0, 0)) := by
      rw [Array.toArray_toList]; exact hheap
    have q1 := heap_setCells_same k 32 (0, 0) (cs.drop (i * 3)) ((i + 1) * 3) _ _ q0 (by omega)
    obtain ⟨L1, hL1⟩ : ∃ L1, L1 = cur.toList.take ((i + 1) * 3) ++ cs.drop (i * 3) ++ cur.toList.drop ((i + 1) * 3 + (cs.drop (i * 3)).length) := ⟨_, rfl⟩
    have hL1l : L1.length = cap * 3 := by rw [hL1]; simp only [List.length_append, List.length_take, List.length_drop] at hdl ⊢; omega
    have hL1g : ∀ q, L1[q]? = if q < (i + 1) * 3 then cur.toList[q]? else if q < (i + 1) * 3 + (cs.drop (i * 3)).length then (cs.drop (i * 3))[q - (i + 1) * 3]? else cur.toList[q]? := fun q => by rw [hL1]; exact put_get _ _ _ (by omega) q
    rw [← hL1] at q1
    have q2 := heap_setCells_same k 32 (0, 0) us (i * 3) _ L1 q1 (by omega)
    obtain ⟨L2, hL2⟩ : ∃ L2, L2 = L1.take (i * 3) ++ us ++ L1.drop (i * 3 + us.length) := ⟨_, rfl⟩
    have hL2l : L2.length = cap * 3 := by rw [hL2]; simp only [List.length_append, List.length_take, List.length_drop]; omega
    have hL2g : ∀ q, L2[q]? = if q < i * 3 then L1[q]? else if q < i * 3 + us.length then us[q - i * 3]? else L1[q]? := fun q => by rw [hL2]; exact put_get _ _ _ (by omega) q
    rw [← hL2] at q2
    have hF : InCells g (l.take i ++ o :: l.drop i) L2.toArray := spliced (by omega)
      (fun q hq => by rw [List.getElem?_toArray, hL2g, if_pos hq, hL1g, if_pos (by omega), toList_get])
      (fun q hq => by rw [List.getElem?_toArray, hL2g, if_neg (by omega), if_pos (by omega), show i * 3 + q - i * 3 = q by omega, hug q hq])
      (fun q hq => by rw [List.getElem?_toArray, hL2g, if_neg (by omega), if_neg (by omega), hL1g, if_neg (by omega), if_pos (by omega), show (i + 1) * 3 + q - (i + 1) * 3 = q by omega, List.getElem?_drop, hcg _ (by omega)]) hin' hinb'
    have hB := Mh.below_setCells (B := 0) (w0 := g.w) k (Nat.zero_le _) us (i * 3) _ (Mh.below_setCells (B := 0) (w0 := g.w) k (Nat.zero_le _) (cs.drop (i * 3)) ((i + 1) * 3) g.w.drew ⟨rfl, rfl, rfl, Nat.le_refl _, fun j hj => absurd hj (Nat.not_lt_zero _)⟩)
    obtain ⟨g', hgw, hend⟩ := OwnsEnd.row (e := 500) (T := 32) (sz := 3) (n := l.length + 1) (cap := cap) (k := k) (cur := L2.toArray) (xs := (l.take i ++ o :: l.drop i).map OpS.pv) hH hlim hrho rfl (by rw [List.length_map, hnl]) (.inl hown) q2 hroom hm (by simpa using hL2l)
      hB.os hB.tape hB.output (by rw [size_setCells, size_setCells]; exact Nat.le_refl _)
      (fun j hj hno => by
        have hjk : j ≠ k := fun e => hno (by rw [e]; exact hown)
        rw [heap_setCells_other _ j hjk, heap_setCells_other _ j hjk]
        rfl) hcells hF
    exact ⟨_, g', he, hgw, hend⟩
end Go.Proofs.Ytlflomhehhcfnaa
