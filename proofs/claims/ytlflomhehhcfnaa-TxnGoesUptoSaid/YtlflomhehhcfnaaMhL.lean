/- Calls that hand boxes and rows over, and hand some back. -/
import Derived.Test.YtlflomhehhcfnaaMhK
namespace Go.Mh
open Go Go.RowKit
variable {P : Program} {E : TE} {c : Ctx} {s : S} {g : G} {a : Act}

/-- The blocks of boxes and rows. -/
def ownsB (g : G) (b : List (Nat × Bx)) (r : List (Nat × Rw)) (k : Nat) : Prop :=
  (∃ i x, lk i b = some x ∧ g.β i = k) ∨ (∃ e x, lk e r = some x ∧ (g.ρ e).ownBlock = some k)

structure OwnsEnd (g : G) (b : List (Nat × Bx)) (r : List (Nat × Rw)) (res : PV) (b' : List (Nat × Bx)) (r' : List (Nat × Rw)) (v : Value) (g' : G) : Prop where
  res : V3 g' res v
  hold : Hold g' b' r'
  rho : ∀ e, (g'.ρ e).oneCell' = true
  lim : ∀ x, g'.mu x → x.block < g'.w.heap.size
  below : Blw (ownsB g b r) g.w g'.w
  base : ∀ x, g.mu x → ¬ ownsB g b r x.block → g'.mu x
  mu : ∀ x, g'.mu x → g.mu x ∨ ownsB g' b' r' x.block
  own : ∀ k, ownsB g' b' r' k → ownsB g b r k ∨ g.w.heap.size ≤ k
  fixed : ∀ i x, lk i b = some x → g'.β i = g.β i

structure Owns (P : Program) (f : Nat) (args : List PV) (b : List (Nat × Bx)) (r : List (Nat × Rw)) (res : PV) (b' : List (Nat × Bx)) (r' : List (Nat × Rw)) : Prop where
  enter : ∀ (vs : Array Value) (w : World), (callFunc f vs).run P w = .ok (.enter f vs) w
  calls : ∀ (g : G) (vs : List Value), (∀ a, g.mu a → a.block < g.w.heap.size) → (∀ e, (g.ρ e).oneCell' = true) → Hold g b r → vs.length = args.length →
    (∀ (i : Nat) p v, args[i]? = some p → vs[i]? = some v → V2 g p v) → Calls P f vs.toArray g.w fun e w' => ∃ v g', e = .returned v ∧ g'.w = w' ∧ OwnsEnd g b r res b' r' v g'

/-! ### from a body -/
def entryO (n : Nat) (args : List PV) (b : List (Nat × Bx)) (r : List (Nat × Rw)) : S := { n := n, t := entryT 0 args, b := b, r := r }
def resOneO (E : TE) (s : S) : ResultVar → Option PV
  | .tmp t => match lk t s.t with
    | some (.opt _ _) => none
    | some (.tup _) => none
    | some p => some p
    | none => none
  | .cell p T => match lk p s.t, lk T E with
    | some (.ref id 0), some ti => match lk id s.b with
      | some bx => match mkAt ti bx.l 0 with
        | some (.tup _) => none
        | some q => some q
        | none => none
      | none => none
    | _, _ => none
def resAllO (E : TE) (s : S) : List ResultVar → Option (List PV)
  | [] => some []
  | r :: l => match resOneO E s r, resAllO E s l with
    | some p, some m => some (p :: m)
    | _, _ => none
def resPVO (E : TE) (s : S) (rs : List ResultVar) : Option PV :=
  match resAllO E s rs with
  | some [p] => some p
  | some l => some (.tup l)
  | none => none
/-- A nil slice, taken for an empty row of one's own. -/
inductive Ad where
  | slot (t d T sz : Nat)
  | cell (id off d T sz : Nat)
  | drop (d : Nat)
def adopt (s : S) : List Ad → Option S
  | [] => some s
  | .slot t d T sz :: l =>
    match lk t s.t with
    | some .nils => if noRow s d = true then adopt { s with t := (t, .row d) :: s.t, r := (d, ⟨T, sz, [], true⟩) :: s.r } l else none
    | _ => none
  | .cell id off d T sz :: l =>
    match lk id s.b with
    | some bx => match bx.l[off]? with
      | some .nils => if noRow s d = true then adopt { s with b := (id, ⟨bx.T, putCells bx.l off [.row d]⟩) :: s.b, r := (d, ⟨T, sz, [], true⟩) :: s.r } l else none
      | _ => none
    | none => none
  | .drop d :: l => adopt { s with t := dgT d true [] s.t, b := dgB d true [] s.b, r := dropK d s.r } l
def EndP (E : TE) (rs : List ResultVar) (res : PV) (b' : List (Nat × Bx)) (r' : List (Nat × Rw)) (s : S) : Prop := resPVO E s rs = some res ∧ subL b' s.b ∧ subL r' s.r
def EndA (E : TE) (rs : List ResultVar) (res : PV) (b' : List (Nat × Bx)) (r' : List (Nat × Rw)) : Option S → Prop
  | some s => EndP E rs res b' r' s
  | none => False
def EndO (E : TE) (rs : List ResultVar) (res : PV) (b' : List (Nat × Bx)) (r' : List (Nat × Rw)) (s : S) : Prop := EndP E rs res b' r' s ∨ ∃ l, EndA E rs res b' r' (adopt s l)
def EndsO (E : TE) (rs : List ResultVar) (res : PV) (b' : List (Nat × Bx)) (r' : List (Nat × Rw)) : Exit → S → Prop
  | .normal, s => EndO E rs res b' r' s
  | .ret, s => EndO E rs res b' r' s
  | _, _ => False

theorem resOneO_sound (hE : TEOK P E) (hR : Rel c s g a) {r : ResultVar} {p : PV} (h : resOneO E s r = some p) :
    ∃ v, (resSem a.tmps r).run P g.w = .ok v g.w ∧ V2 g p v := by
  unfold resOneO at h
  split at h
  · rename_i t
    split at h
    · cases h
    · cases h
    · rename_i q hno hnt hl
      cases h
      exact ⟨_, rfl, V2_of_V3 (fun l e => hnt l e) (V3_of_V4 (fun b x e => hno b x e) (hR.tmps t p hl))⟩
    · cases h
  · rename_i t T
    split at h
    · rename_i id ti hl ht
      split at h
      · rename_i bx hbx
        split at h
        · cases h
        · rename_i q hnt hq
          cases h
          have e1 := inv_ref (V3_of_V4 (fun _ _ e => by cases e) (hR.tmps t _ hl))
          obtain ⟨u, h1, h2⟩ := box_load hR hbx
          obtain ⟨v, hv, hv3⟩ := mkAt_load (P := P) (hE _ _ ht) hq ⟨g.β id, 0, none⟩ u h2
          replace hv := hv g.w (fun j hj1 hj => by
            have : (⟨g.β id, 0, none⟩ : Addr).add (j - 0) = ⟨g.β id, j, none⟩ := by rw [Addr.add_mid]; congr 1; omega
            rw [this]; exact h1 j hj)
          refine ⟨v, ?_, V2_of_V3 (fun l e => hnt l e) hv3⟩
          simp only [Instr.loadAt, Instr.sureAddr, Sem.run_bind, Sem.run_pure, Result.andThen_ok] at hv
          simp only [resSem, e1, asAddr, Sem.run_bind, Sem.run_pure, Result.andThen_ok, hv]
        · cases h
      · cases h
    · cases h

theorem resAllO_sound (hE : TEOK P E) (hR : Rel c s g a) : ∀ {rs : List ResultVar} {l : List PV}, resAllO E s rs = some l →
    ∃ vs : List Value, (rs.mapM (resSem a.tmps)).run P g.w = .ok vs g.w ∧ vs.length = l.length ∧ ∀ (i : Nat) p v, l[i]? = some p → vs[i]? = some v → V2 g p v
  | [], l, h => by
    cases h
    exact ⟨[], by simp, rfl, fun i p v h => by simp at h⟩
  | r :: rs, l, h => by
    unfold resAllO at h
    split at h
    · rename_i p m h1 h2
      cases h
      obtain ⟨v, hv1, hv2⟩ := resOneO_sound hE hR h1
      obtain ⟨vs, hw1, hw2, hw3⟩ := resAllO_sound hE hR h2
      refine ⟨v :: vs, by simp [hv1, hw1], by simp [hw2], fun i p' v' a b => ?_⟩
      cases i with
      | zero =>
        simp at a b
        subst a; subst b
        exact hv2
      | succ i => exact hw3 i p' v' (by simpa using a) (by simpa using b)
    · cases h

theorem resPVO_sound (hE : TEOK P E) (hR : Rel c s g a) {fn : Func} {p : PV} (h : resPVO E s fn.results.toList = some p) :
    ∃ v, (results fn a.tmps).run P g.w = .ok v g.w ∧ V3 g p v := by
  have hres : results fn a.tmps = (do
      let vs ← fn.results.mapM (resSem a.tmps)
      pure (if h : vs.size = 1 then vs[0] else .tuple vs)) := by
    unfold results
    congr 1
  have key : ∀ l, resAllO E s fn.results.toList = some l → ∃ vs : List Value, vs.length = l.length ∧ (∀ (i : Nat) p v, l[i]? = some p → vs[i]? = some v → V2 g p v) ∧
      (results fn a.tmps).run P g.w = .ok (if h : vs.toArray.size = 1 then vs.toArray[0] else .tuple vs.toArray) g.w := by
    intro l hl
    obtain ⟨vs, h1, h2, h3⟩ := resAllO_sound hE hR hl
    refine ⟨vs, h2, h3, ?_⟩
    rw [hres]
    simp [Array.mapM_eq_mapM_toList, h1]
  unfold resPVO at h
  split at h
  · rename_i q hq
    cases h
    obtain ⟨vs, h1, h2, h3⟩ := key _ hq
    match vs, h1 with
    | [v], _ => exact ⟨v, by simpa using h3, .of2 (h2 0 p v rfl rfl)⟩
  · rename_i l hl hq
    cases h
    obtain ⟨vs, h1, h2, h3⟩ := key _ hq
    have hne : ¬ vs.length = 1 := by
      intro e
      rw [h1] at e
      match l, e with
      | [x], _ => exact hl x rfl
    refine ⟨.tuple vs.toArray, ?_, vs, rfl, h1, h2⟩
    rw [h3, dif_neg (by simpa using hne)]
  · cases h

theorem Hold.sub {b b' : List (Nat × Bx)} {r r' : List (Nat × Rw)} (h : Hold g b r) (hb : ∀ t v, lk t b' = some v → lk t b = some v) (hr : ∀ t v, lk t r' = some v → lk t r = some v) : Hold g b' r' :=
  ⟨fun t v ht => h.boxes t v (hb t v ht), fun i j x y hx hy => h.apart i j x y (hb _ _ hx) (hb _ _ hy), fun t v ht => h.rows t v (hr t v ht), fun e x i y hx hy => h.rbox e x i y (hr _ _ hx) (hb _ _ hy),
   fun e x e' x' k hx hy => h.rrow e x e' x' k (hr _ _ hx) (hr _ _ hy)⟩

theorem Rel.adopt : ∀ {l : List Ad} {s s' : S} {g : G}, Rel c s g a → adopt s l = some s' → ∃ g', g'.w = g.w ∧ Rel c s' g' a
  | [], s, s', g, hR, h => by cases h; exact ⟨g, rfl, hR⟩
  | .slot t d T sz :: l, s, s', g, hR, h => by
    simp only [Mh.adopt] at h
    split at h
    · rename_i ht
      split at h
      · rename_i hn
        have h1 := hR.setNil hn T sz true
        have hv : a.tmps.getD t undef = .slice none 0 0 := inv_nils (V3_of_V4 (fun _ _ e => by cases e) (hR.tmps t _ ht))
        have h2 : Rel c { s with t := (t, .row d) :: s.t, r := (d, ⟨T, sz, [], true⟩) :: s.r } (setRho g d (.slice none 0 0)) a := by
          refine { h1 with tmps := fun t' pv ht' => ?_ }
          simp only [lk] at ht'
          split at ht'
          · rename_i e
            cases ht'
            subst e
            show a.tmps.getD t' undef = if d = d then Value.slice none 0 0 else g.ρ d
            rw [if_pos rfl, hv]
          · exact h1.tmps t' pv ht'
        obtain ⟨g', e1, e2⟩ := Rel.adopt h2 h
        exact ⟨g', e1, e2⟩
      · cases h
    · cases h
  | .cell id off d T sz :: l, s, s', g, hR, h => by
    simp only [Mh.adopt] at h
    split at h
    · rename_i bx hbx
      split at h
      · rename_i ho
        split at h
        · rename_i hn
          have h1 := hR.setNil hn T sz true
          have hlt := (List.getElem?_eq_some_iff.1 ho).1
          have h2 : Rel c { s with b := (id, ⟨bx.T, putCells bx.l off [.row d]⟩) :: s.b, r := (d, ⟨T, sz, [], true⟩) :: s.r } (setRho g d (.slice none 0 0)) a := by
            have old : ∀ k y, lk k ((id, (⟨bx.T, putCells bx.l off [.row d]⟩ : Bx)) :: s.b) = some y → ∃ z, lk k s.b = some z := fun k y hy => by
              simp only [lk] at hy
              split at hy
              · rename_i e; subst e; exact ⟨bx, hbx⟩
              · exact ⟨y, hy⟩
            refine { h1 with boxes := fun k y hy => ?_, apart := fun i j x y hx hy => ?_, rbox := fun e x i y hx hy => ?_, bmine := fun i x hx => ?_ }
            · simp only [lk] at hy
              split at hy
              · rename_i e
                cases hy
                subst e
                obtain ⟨⟨cs, a1, a2, a3⟩, a4⟩ := h1.boxes k bx hbx
                obtain ⟨⟨cs0, b1, b2, b3⟩, _⟩ := hR.boxes k bx hbx
                have hc : cs = cs0 := by
                  have : (setRho g d (.slice none 0 0)).w.heap[(setRho g d (.slice none 0 0)).β k]? = g.w.heap[g.β k]? := rfl
                  rw [a1, b1] at this
                  cases this
                  rfl
                subst hc
                refine ⟨⟨cs, a1, ?_, fun j p v c1 c2 => ?_⟩, a4⟩
                · simp [putCells]; omega
                · simp only [putCells, List.getElem?_append, List.getElem?_take, List.getElem?_drop, List.length_append, List.length_take, List.length_cons, List.length_nil] at c1
                  have e2 : min off bx.l.length = off := by omega
                  rw [e2] at c1
                  by_cases hj : j < off
                  · rw [if_pos (by omega), if_pos hj, if_pos hj] at c1
                    exact a3 j p v c1 c2
                  · by_cases hj2 : j < off + 1
                    · have hjo : j = off := by omega
                      subst hjo
                      rw [if_pos hj2, if_neg hj] at c1
                      simp at c1
                      subst c1
                      have hv := b3 j _ v ho c2
                      have hv : RRel g.w g.mu .nils v := hv
                      cases hv
                      show _ = if d = d then Value.slice none 0 0 else g.ρ d
                      rw [if_pos rfl]
                    · rw [if_neg hj2] at c1
                      refine a3 j p v ?_ c2
                      rw [← c1]; congr 1; omega
              · exact h1.boxes k y hy
            · obtain ⟨x', hx'⟩ := old i x hx
              obtain ⟨y', hy'⟩ := old j y hy
              exact h1.apart i j x' y' hx' hy'
            · obtain ⟨y', hy'⟩ := old i y hy
              exact h1.rbox e x i y' hx hy'
            · obtain ⟨x', hx'⟩ := old i x hx
              exact h1.bmine i x' hx'
          obtain ⟨g', e1, e2⟩ := Rel.adopt h2 h
          exact ⟨g', e1, e2⟩
        · cases h
      · cases h
    · cases h
  | .drop d :: l, s, s', g, hR, h => by
    have hst : StepR g g d true [] := ⟨fun _ _ h1 h2 => ⟨h1, h2⟩, rfl, fun _ _ => rfl, fun h => by cases h⟩
    have h2 : Rel c { s with t := dgT d true [] s.t, b := dgB d true [] s.b, r := dropK d s.r } g a := by
      refine { hR with tmps := fun t pv ht => ?_, boxes := fun i x hx => ?_, apart := fun i j x y hx hy hij => ?_, rows := fun e x hx => hR.rows e x (lk_dropK hx).2, rbox := fun e x i y hx hy => ?_, rrow := fun e x e' x' k hx hx' => hR.rrow e x e' x' k (lk_dropK hx).2 (lk_dropK hx').2, bmine := fun i x hx => ?_, rmine := fun e x k hx => hR.rmine e x k (lk_dropK hx).2 }
      · obtain ⟨y, hy, rfl⟩ := lk_map (f := fun y : Bx => (⟨y.T, y.l.map (dg1 d true [])⟩ : Bx)) hx
        exact (hR.boxes i y hy).keep _ rfl rfl (hR.boxes i y hy).2 (fun p _ v hv => V1.stepR hst hv)
      · obtain ⟨x', hx', _⟩ := lk_map (f := fun y : Bx => (⟨y.T, y.l.map (dg1 d true [])⟩ : Bx)) hx
        obtain ⟨y', hy', _⟩ := lk_map (f := fun y : Bx => (⟨y.T, y.l.map (dg1 d true [])⟩ : Bx)) hy
        exact hR.apart i j x' y' hx' hy' hij
      · obtain ⟨y', hy', _⟩ := lk_map (f := fun y : Bx => (⟨y.T, y.l.map (dg1 d true [])⟩ : Bx)) hy
        exact hR.rbox e x i y' (lk_dropK hx).2 hy'
      · obtain ⟨u, hu, rfl⟩ := lk_map (f := map4 (dg1 d true [])) ht
        exact V4.stepR hst (hR.tmps t u hu)
      · obtain ⟨y', hy', _⟩ := lk_map (f := fun y : Bx => (⟨y.T, y.l.map (dg1 d true [])⟩ : Bx)) hx
        exact hR.bmine i y' hy'
    exact Rel.adopt h2 h

theorem Owns_of_T (hE : TEOK P E) {f : Nat} {fn : Func} {code : Code} {args : List PV} {b : List (Nat × Bx)} {r : List (Nat × Rw)} {res : PV} {b' : List (Nat × Bx)} {r' : List (Nat × Rw)}
    (hf : P.funcs[f]? = some fn) (hb : fn.body = some code) (hnm : (fn.name == "runtime.NumGoroutine") = false) (hn : args.length ≤ fn.ntmps) (hids : (b.all fun p => decide (100000 ≤ p.1)) = true)
    (h : ∀ c, T P c code (entryO fn.ntmps args b r) (EndsO E fn.results.toList res b' r')) : Owns P f args b r res b' r' := by
  refine ⟨enter_of hf hb hnm, fun g vs hmu hrho hH hl hv => ?_⟩
  let c : Ctx := { w0 := g.w, mu0 := fun x => g.mu x ∧ ¬ ownsB g b r x.block, own := ownsB g b r, β0 := g.β, low := fun x hx => ⟨hmu x hx.1, hx.2⟩ }
  refine calls_of_wp hf hb ?_
  have hR : Rel c (entryO fn.ntmps args b r) g { tmps := vs.toArray ++ Array.replicate (fn.ntmps - vs.toArray.size) undef, defers := [] } := by
    refine { hH with defers := rfl, size := ?_, tmps := fun t p ht => ?_, bmine := fun i x hx => .inr (.inl ⟨i, x, hx, rfl⟩), rmine := fun e x k hx hk => .inr (.inr ⟨e, x, hx, hk⟩), below := Blw.refl _ _, base := fun _ h => h.1, lim := hmu, rho := hrho, fixed := fun _ _ => rfl }
    · simp [entryO]; omega
    · obtain ⟨_, h2⟩ := lk_entryT ht
      simp only [Nat.sub_zero] at h2
      have hlt := (List.getElem?_eq_some_iff.1 h2).1
      have hlt' : t < vs.length := by omega
      have hvt : vs[t]? = some vs[t] := List.getElem?_eq_getElem hlt'
      have hg : (vs.toArray ++ Array.replicate (fn.ntmps - vs.toArray.size) undef).getD t undef = vs[t] := by
        simp [Array.getD_eq_getD_getElem?, Array.getElem?_append, hlt']
      rw [hg]
      exact .of3 (.of2 (hv t p _ h2 hvt))
  refine wp_mono (h c g _ hR) fun x a' w' ⟨s', g1, h1, h2, h3⟩ => ?_
  subst h2
  have fin0 : ∀ {s' : S} {g1 : G}, Rel c s' g1 a' → EndP E fn.results.toList res b' r' s' → a'.defers = [] ∧ ∃ v, (results fn a'.tmps).run P g1.w = .ok v g1.w ∧
      ∃ u g', Ending.returned v = Ending.returned u ∧ g'.w = g1.w ∧ OwnsEnd g b r res b' r' u g' := by
    intro s' g1 h3 ⟨hp, hsb, hsr⟩
    obtain ⟨v, hv1, hv2⟩ := resPVO_sound hE h3 hp
    have hH' : Hold g1 b' r' := h3.toHold.sub (subL_lk hsb) (subL_lk hsr)
    let g2 : G := { g1 with mu := fun x => (g.mu x ∧ ¬ ownsB g b r x.block) ∨ (ownsB g1 b' r' x.block ∧ g1.mu x) }
    have hsub : ∀ x, g2.mu x → g1.mu x := fun x hx => hx.elim (fun h => h3.base x h) (fun h => h.2)
    have hs : Same g1 g2 := ⟨fun x u a1 a2 => ⟨fun hx => a1 (hsub x hx), a2⟩, rfl, rfl⟩
    refine ⟨h3.defers, v, hv1, v, g2, rfl, rfl, ?_⟩
    refine { res := hv2.same hs, hold := ?_, rho := h3.rho, lim := fun x hx => h3.lim x (hsub x hx), below := h3.below, base := fun x a1 a2 => .inl ⟨a1, a2⟩, mu := fun x hx => ?_, own := fun k hk => ?_, fixed := fun i x hx => ?_ }
    · refine ⟨fun i x hx => ?_, hH'.apart, fun e x hx => ?_, hH'.rbox, hH'.rrow⟩
      · exact (hH'.boxes i x hx).keep' rfl rfl (fun off => .inr ⟨.inl ⟨i, x, hx, rfl⟩, (hH'.boxes i x hx).2 off⟩) (fun p _ v hv => hv.same hs)
      · exact (hH'.rows e x hx).keep rfl (fun _ _ => rfl) (fun k off hk => ⟨hsub _, fun hm => .inr ⟨.inr ⟨e, x, hx, hk⟩, hm⟩⟩) hs.keep
    · rcases hx with hx | hx
      · exact .inl hx.1
      · exact .inr hx.1
    · rcases hk with ⟨i, x, hx, rfl⟩ | ⟨e, x, hx, he⟩
      · rcases h3.bmine i x (subL_lk hsb i x hx) with h | h
        · exact .inr h
        · exact .inl h
      · rcases h3.rmine e x k (subL_lk hsr e x hx) he with h | h
        · exact .inr h
        · exact .inl h
    · refine h3.fixed i ?_
      have := lk_all hids i x hx
      simpa using this
  have fin : EndO E fn.results.toList res b' r' s' → a'.defers = [] ∧ ∃ v, (results fn a'.tmps).run P g1.w = .ok v g1.w ∧
      ∃ u g', Ending.returned v = Ending.returned u ∧ g'.w = g1.w ∧ OwnsEnd g b r res b' r' u g' := by
    intro h
    rcases h with h | ⟨l, h⟩
    · exact fin0 h3 h
    · unfold EndA at h
      split at h
      · rename_i s2 hs2
        obtain ⟨g2, e1, hR2⟩ := h3.adopt hs2
        have := fin0 hR2 h
        rw [e1] at this
        exact this
      · exact h.elim
  cases x with
  | normal => exact fin h1
  | ret => exact fin h1
  | _ => exact h1.elim

/-! ### at a call -/
def hasK {α : Type} (k : Nat) (l : List (Nat × α)) : Bool := (lk k l).isSome
def ok1 (b : List (Nat × Bx)) (r : List (Nat × Rw)) : PV → Bool
  | .ref i _ => hasK i b
  | .mref i => hasK i b
  | .cloB _ l => l.all fun i => hasK i b
  | .row e => hasK e r
  | .rptr e _ _ _ => hasK e r
  | .rsl e _ _ _ => hasK e r
  | .tup _ => false
  | .opt _ _ => false
  | _ => true
/-- an argument: handed over as it is, or as data -/
def argO (s : S) (b : List (Nat × Bx)) (r : List (Nat × Rw)) (v : PV) : Option PV := if all2 (ok1 b r) v = true then some v else frzN s v
def evArgsO (s : S) (b : List (Nat × Bx)) (r : List (Nat × Rw)) : List Operand → Option (List PV × Prop)
  | [] => some ([], True)
  | x :: l =>
    match evp s x, evArgsO s b r l with
    | some (v, o), some (m, p) => match argO s b r v with
      | some q => some (q :: m, o ∧ p)
      | none => none
    | _, _ => none
def callOfO (s : S) (b : List (Nat × Bx)) (r : List (Nat × Rw)) : Op → Option (Nat × List PV × Prop)
  | .call cl =>
    match calleeOf s cl.callee, evArgsO s b r cl.args.toList with
    | some (f, [], o), some (l, p) => some (f, l, o ∧ p)
    | _, _ => none
  | _ => none
/-- the rows that an argument's data hang on -/
def argRidsO (s : S) (b : List (Nat × Bx)) (r : List (Nat × Rw)) : List Operand → List Nat
  | [] => []
  | x :: l => (match evp s x with
    | some (v, _) => if all2 (ok1 b r) v = true then [] else rids v
    | none => []) ++ argRidsO s b r l
def callRidsO (s : S) (b : List (Nat × Bx)) (r : List (Nat × Rw)) : Op → List Nat
  | .call cl => argRidsO s b r cl.args.toList
  | _ => []

/-- No value but what was handed over bears a name that comes back. -/
def new1 (b b' : List (Nat × Bx)) (r r' : List (Nat × Rw)) : PV → Bool
  | .ref i _ => !hasK i b' || hasK i b
  | .mref i => !hasK i b' || hasK i b
  | .cloB _ l => l.all fun i => !hasK i b' || hasK i b
  | .row e => !hasK e r' || hasK e r
  | .rptr e _ _ _ => !hasK e r' || hasK e r
  | .rsl e _ _ _ => !hasK e r' || hasK e r
  | _ => true
/-- What hangs on a row that was handed over is spoken of no more. -/
def dgs (r : List (Nat × Rw)) : PV → PV
  | .row e => if hasK e r = true then .any else .row e
  | .rptr e sz i f => if hasK e r = true then .any else .rptr e sz i f
  | .rsl e sz lo n => if hasK e r = true then .any else .rsl e sz lo n
  | p => p
def dropKs {α β : Type} (l : List (Nat × β)) : List (Nat × α) → List (Nat × α)
  | [] => []
  | p :: m => if hasK p.1 l = true then dropKs l m else p :: dropKs l m
theorem lk_dropKs {α β : Type} {l : List (Nat × β)} {k : Nat} {v : α} : ∀ {m : List (Nat × α)}, lk k (dropKs l m) = some v → hasK k l = false ∧ lk k m = some v
  | [], h => by cases h
  | p :: m, h => by
    unfold dropKs at h
    split at h
    · rename_i hp
      obtain ⟨h1, h2⟩ := lk_dropKs h
      refine ⟨h1, ?_⟩
      unfold lk
      split
      · rename_i e; rw [e] at h1; rw [h1] at hp; cases hp
      · exact h2
    · rename_i hp
      unfold lk at h ⊢
      split at h
      · rename_i e; rw [if_pos e]; subst e; exact ⟨by simpa using hp, h⟩
      · rename_i e; rw [if_neg e]; exact lk_dropKs h
theorem lk_append {α : Type} {k : Nat} {v : α} : ∀ {l m : List (Nat × α)}, lk k (l ++ m) = some v → lk k l = some v ∨ (lk k l = none ∧ lk k m = some v)
  | [], m, h => .inr ⟨rfl, h⟩
  | p :: l, m, h => by
    have h : (if k = p.1 then some p.2 else lk k (l ++ m)) = some v := h
    show (if k = p.1 then some p.2 else lk k l) = some v ∨ ((if k = p.1 then some p.2 else lk k l) = none ∧ lk k m = some v)
    split at h
    · rename_i e; rw [if_pos e]; exact .inl h
    · rename_i e; rw [if_neg e]; exact lk_append h
def backS (s : S) (b : List (Nat × Bx)) (r : List (Nat × Rw)) (b' : List (Nat × Bx)) (r' : List (Nat × Rw)) : S :=
  { n := s.n, t := s.t.map fun p => (p.1, map4 (dgs r) p.2), b := b' ++ dropKs b (s.b.map fun p => (p.1, ⟨p.2.T, p.2.l.map (dgs r)⟩)), r := r' ++ dropKs r s.r }
/-- May what comes back be taken into a state? -/
def backOk (s : S) (b : List (Nat × Bx)) (r : List (Nat × Rw)) (res : PV) (b' : List (Nat × Bx)) (r' : List (Nat × Rw)) : Bool :=
  (r.all fun p => p.2.ex) && (s.t.all fun p => all4 (new1 b b' r r') p.2) && (s.b.all fun p => p.2.l.all (new1 b b' r r')) &&
  (b'.all fun p => hasK p.1 b || ((lk p.1 s.b).isNone && decide (p.1 < 100000))) && (r'.all fun p => hasK p.1 r || (lk p.1 s.r).isNone) &&
  all3 (ok1 b' r') res && (b'.all fun p => p.2.l.all (ok1 b' r'))

theorem evArgsO_sound (hR : Rel c s g a) {b : List (Nat × Bx)} {r : List (Nat × Rw)} : ∀ {xs : List Operand} {l : List PV} {ob : Prop}, evArgsO s b r xs = some (l, ob) → ob →
    (xs.map a.eval).length = l.length ∧ ∀ (i : Nat) p v, l[i]? = some p → (xs.map a.eval)[i]? = some v → V2 g p v
  | [], l, ob, h, _ => by
    simp only [evArgsO, Option.some.injEq, Prod.mk.injEq] at h
    rw [← h.1]
    exact ⟨rfl, fun i p v h2 => by simp at h2⟩
  | x :: xs, l, ob, h, ho => by
    unfold evArgsO at h
    split at h
    · rename_i v o m p h1 h2
      split at h
      · rename_i q hq
        cases h
        obtain ⟨h3, h4⟩ := evArgsO_sound hR h2 ho.2
        have hv := evp_sound hR h1 ho.1
        refine ⟨by simpa using h3, fun i p' v' a1 a2 => ?_⟩
        cases i with
        | zero =>
          simp at a1 a2
          subst a1; subst a2
          unfold argO at hq
          split at hq
          · rename_i hok
            cases hq
            exact V2_of_V3 (fun l e => by subst e; cases hok) hv
          · have hnt : ∀ l, v ≠ .tup l := fun l e => by subst e; cases hq
            exact V2.of (frzN_sound hR hq (V2_of_V3 hnt hv))
        | succ i => exact h4 i p' v' (by simpa using a1) (by simpa using a2)
      · cases h
    · cases h

theorem callOfO_sound (hR : Rel c s g a) {o : Oper} {f : Nat} {args : List PV} {ob : Prop} {b : List (Nat × Bx)} {r : List (Nat × Rw)} (h : callOfO s b r o.op = some (f, args, ob)) (hob : ob) :
    ∃ vs : List Value, vs.length = args.length ∧ (∀ (i : Nat) p v, args[i]? = some p → vs[i]? = some v → V2 g p v) ∧
      ∀ (_ : ∀ (us : Array Value) (w : World), (callFunc f us).run P w = .ok (.enter f us) w) (w : World), (execOp a.eval o).run P w = .ok (.enter f vs.toArray) w := by
  unfold callOfO at h
  split at h
  · rename_i cl ho
    split at h
    · rename_i f' o' l p hc he
      cases h
      unfold calleeOf at hc
      split at hc
      · rename_i x hx
        split at hc
        · rename_i f'' l' o'' hv
          cases hc
          have hval := evp_sound hR hv hob.1
          have hval : RRel g.w g.mu (.clo f []) (a.eval x) := hval
          obtain ⟨h1, h2⟩ := evArgsO_sound hR he hob.2
          generalize hq : a.eval x = q at hval
          cases hval with
          | clo _ _ us hl hu =>
            have hus : us = [] := List.eq_nil_of_length_eq_zero hl
            subst hus
            refine ⟨cl.args.toList.map a.eval, h1, h2, fun henter w => ?_⟩
            have hx2 : (cl.args.map a.eval) = (cl.args.toList.map a.eval).toArray := by rw [← List.map_toArray, Array.toArray_toList]
            simp [execOp, ho, resolve, hx, hq, Deferred.ofValue, invoke, henter, hx2]
        · cases hc
      · cases hc
    · cases h
  · cases h

theorem hasK_lk {α : Type} {k : Nat} {l : List (Nat × α)} (h : hasK k l = true) : ∃ x, lk k l = some x := Option.isSome_iff_exists.1 h
theorem hasK_of {α : Type} {k : Nat} {l : List (Nat × α)} {x : α} (h : lk k l = some x) : hasK k l = true := by unfold hasK; rw [h]; rfl
theorem hasK_none {α : Type} {k : Nat} {l : List (Nat × α)} (h : lk k l = none) : hasK k l = false := by unfold hasK; rw [h]; rfl

def backG (g g' : G) (b' : List (Nat × Bx)) (r' : List (Nat × Rw)) : G :=
  { w := g'.w, mu := g'.mu, β := fun i => if hasK i b' = true then g'.β i else g.β i, ρ := fun e => if hasK e r' = true then g'.ρ e else g.ρ e }

theorem V1.back {g g' : G} {b b' : List (Nat × Bx)} {r r' : List (Nat × Rw)} (hk : ∀ a u, ¬ g.mu a → g.w.cell? a = some u → ¬ g'.mu a ∧ g'.w.cell? a = some u) (hf : ∀ i x, lk i b = some x → g'.β i = g.β i)
    {p : PV} {v : Value} (hn : new1 b b' r r' p = true) (h : V1 g p v) : V1 (backG g g' b' r') (dgs r p) v := by
  have hβ : ∀ i, (!hasK i b' || hasK i b) = true → (backG g g' b' r').β i = g.β i := by
    intro i hi
    show (if hasK i b' = true then g'.β i else g.β i) = g.β i
    split
    · rename_i h1
      rw [h1] at hi
      obtain ⟨x, hx⟩ := hasK_lk (by simpa using hi)
      exact hf i x hx
    · rfl
  have hρ : ∀ e, (!hasK e r' || hasK e r) = true → ¬ hasK e r = true → (backG g g' b' r').ρ e = g.ρ e := by
    intro e he hne
    show (if hasK e r' = true then g'.ρ e else g.ρ e) = g.ρ e
    split
    · rename_i h1
      rw [h1] at he
      exact absurd (by simpa using he) hne
    · rfl
  cases p with
  | ref i off => exact (show v = .pointer (some ⟨_, off, none⟩) by rw [hβ i hn]; exact h)
  | mref i => exact (show v = .map (some _) by rw [hβ i hn]; exact h)
  | cloB f l =>
    have h : v = .func (.func f) #[] (l.map fun i => Value.pointer (some ⟨g.β i, 0, none⟩)).toArray := h
    subst h
    show _ = Value.func (.func f) #[] (l.map fun i => Value.pointer (some ⟨(backG g g' b' r').β i, 0, none⟩)).toArray
    congr 2
    exact List.map_congr_left fun i hi => by rw [hβ i (List.all_eq_true.1 hn i hi)]
  | row e =>
    show V1 _ (if hasK e r = true then .any else .row e) v
    split
    · trivial
    · rename_i h1
      show v = (backG g g' b' r').ρ e
      rw [hρ e hn h1]; exact h
  | rptr e sz i f =>
    show V1 _ (if hasK e r = true then .any else .rptr e sz i f) v
    split
    · trivial
    · rename_i h1
      show ∃ b n cap, (backG g g' b' r').ρ e = _ ∧ _
      rw [hρ e hn h1]; exact h
  | rsl e sz lo n =>
    show V1 _ (if hasK e r = true then .any else .rsl e sz lo n) v
    split
    · trivial
    · rename_i h1
      show ∃ b m cap, (backG g g' b' r').ρ e = _ ∧ _
      rw [hρ e hn h1]; exact h
  | raw x => exact h
  | any => trivial
  | int k n => exact RRel.mono h hk
  | bool x => exact RRel.mono h hk
  | str x => exact RRel.mono h hk
  | agg l => exact RRel.mono h hk
  | tup l => exact RRel.mono h hk
  | sl l => exact RRel.mono h hk
  | nils => exact RRel.mono h hk
  | eptr l => exact RRel.mono h hk
  | clo f l => exact RRel.mono h hk
  | opt c x => exact RRel.mono h hk

theorem V1.got {g g' : G} {b' : List (Nat × Bx)} {r' : List (Nat × Rw)} {p : PV} {v : Value} (hn : ok1 b' r' p = true) (h : V1 g' p v) : V1 (backG g g' b' r') p v := by
  have hβ : ∀ i, hasK i b' = true → (backG g g' b' r').β i = g'.β i := fun i hi => if_pos hi
  have hρ : ∀ e, hasK e r' = true → (backG g g' b' r').ρ e = g'.ρ e := fun e he => if_pos he
  cases p with
  | ref i off => exact (show v = .pointer (some ⟨_, off, none⟩) by rw [hβ i hn]; exact h)
  | mref i => exact (show v = .map (some _) by rw [hβ i hn]; exact h)
  | cloB f l =>
    have h : v = .func (.func f) #[] (l.map fun i => Value.pointer (some ⟨g'.β i, 0, none⟩)).toArray := h
    subst h
    show _ = Value.func (.func f) #[] (l.map fun i => Value.pointer (some ⟨(backG g g' b' r').β i, 0, none⟩)).toArray
    congr 2
    exact List.map_congr_left fun i hi => by rw [hβ i (List.all_eq_true.1 hn i hi)]
  | row e => exact (show v = (backG g g' b' r').ρ e by rw [hρ e hn]; exact h)
  | rptr e sz i f =>
    show ∃ b n cap, (backG g g' b' r').ρ e = _ ∧ _
    rw [hρ e hn]; exact h
  | rsl e sz lo n =>
    show ∃ b m cap, (backG g g' b' r').ρ e = _ ∧ _
    rw [hρ e hn]; exact h
  | raw x => exact h
  | any => trivial
  | tup l => cases hn
  | opt c x => cases hn
  | int k n => exact h
  | bool x => exact h
  | str x => exact h
  | agg l => exact h
  | sl l => exact h
  | nils => exact h
  | eptr l => exact h
  | clo f l => exact h

/-- What a call that took boxes and rows leaves. -/
theorem Rel.back (hR : Rel c s g a) {b : List (Nat × Bx)} {r : List (Nat × Rw)} {res : PV} {b' : List (Nat × Bx)} {r' : List (Nat × Rw)} {v : Value} {g' : G}
    (hsb : subL b s.b) (hsr : subL r s.r) (hk : backOk s b r res b' r' = true) (h : OwnsEnd g b r res b' r' v g') :
    Rel c (backS s b r b' r') (backG g g' b' r') a ∧ V3 (backG g g' b' r') res v := by
  simp only [backOk, Bool.and_eq_true] at hk
  obtain ⟨⟨⟨⟨⟨⟨k1, k2⟩, k3⟩, k4⟩, k5⟩, k6⟩, k7⟩ := hk
  have hmine : ∀ k, ownsB g b r k → c.mine k := by
    intro k hk
    rcases hk with ⟨i, x, hx, rfl⟩ | ⟨e, x, hx, he⟩
    · exact hR.bmine i x (subL_lk hsb i x hx)
    · exact hR.rmine e x k (subL_lk hsr e x hx) he
  have hkeep : ∀ x u, ¬ g.mu x → g.w.cell? x = some u → ¬ g'.mu x ∧ g'.w.cell? x = some u := by
    intro x u hx hc
    have hlt := World.block_lt_of_cell? g.w x hc
    have hno : ¬ ownsB g b r x.block := by
      have hxe := spot_of_cell hc
      rintro (⟨i, y, hy, e⟩ | ⟨e, y, hy, he⟩)
      · apply hx
        rw [hxe, ← e]
        exact (hR.boxes i y (subL_lk hsb i y hy)).2 x.off
      · apply hx
        obtain ⟨_, _, _, _, hm⟩ := hR.rows e y (subL_lk hsr e y hy)
        have hex : y.ex = true := lk_all k1 e y hy
        rw [hxe]
        rcases Nat.lt_or_ge x.off (y.xs.length * y.sz) with h1 | h1
        · exact ((hm _ he).1 _ h1).2 hex
        · exact (hm _ he).2 _ h1
    refine ⟨fun hm => ?_, by rw [World.cell?_of_block (h.below.block x.block hlt hno)]; exact hc⟩
    rcases h.mu x hm with h1 | h1
    · exact hx h1
    · rcases h.own _ h1 with h2 | h2
      · exact hno h2
      · omega
  have hV : ∀ {p : PV} {u : Value}, new1 b b' r r' p = true → V1 g p u → V1 (backG g g' b' r') (dgs r p) u := fun hn hu => V1.back hkeep h.fixed hn hu
  have hG : ∀ {p : PV} {u : Value}, ok1 b' r' p = true → V1 g' p u → V1 (backG g g' b' r') p u := fun hn hu => V1.got hn hu
  -- the state's boxes and rows: back, or untouched
  have hbx : ∀ i x, lk i (backS s b r b' r').b = some x → (lk i b' = some x) ∨ (hasK i b' = false ∧ hasK i b = false ∧ ∃ y, lk i s.b = some y ∧ x = ⟨y.T, y.l.map (dgs r)⟩) := by
    intro i x hx
    rcases lk_append hx with h1 | ⟨h1, h2⟩
    · exact .inl h1
    · obtain ⟨h3, h4⟩ := lk_dropKs h2
      obtain ⟨y, hy, e⟩ := lk_map (f := fun y : Bx => (⟨y.T, y.l.map (dgs r)⟩ : Bx)) h4
      exact .inr ⟨hasK_none h1, h3, y, hy, e⟩
  have hrx : ∀ e x, lk e (backS s b r b' r').r = some x → (lk e r' = some x) ∨ (hasK e r' = false ∧ hasK e r = false ∧ lk e s.r = some x) := by
    intro e x hx
    rcases lk_append hx with h1 | ⟨h1, h2⟩
    · exact .inl h1
    · obtain ⟨h3, h4⟩ := lk_dropKs h2
      exact .inr ⟨hasK_none h1, h3, h4⟩
  -- what is untouched is apart from what was handed over, and old
  have hbno : ∀ i y, hasK i b = false → lk i s.b = some y → ¬ ownsB g b r (g.β i) := by
    intro i y hi hy
    rintro (⟨j, z, hz, e⟩ | ⟨e, z, hz, he⟩)
    · refine hR.apart j i z y (subL_lk hsb j z hz) hy (fun e' => ?_) e
      subst e'
      rw [hasK_of hz] at hi; cases hi
    · exact hR.rbox e z i y (subL_lk hsr e z hz) hy he
  have hrno : ∀ e y k, hasK e r = false → lk e s.r = some y → (g.ρ e).ownBlock = some k → ¬ ownsB g b r k := by
    intro e y k he hy hk
    rintro (⟨j, z, hz, e'⟩ | ⟨e', z, hz, he'⟩)
    · exact hR.rbox e y j z hy (subL_lk hsb j z hz) (by rw [e']; exact hk)
    · refine hR.rrow e y e' z k hy (subL_lk hsr e' z hz) (fun e'' => ?_) hk he'
      subst e''
      rw [hasK_of hz] at he; cases he
  have hβb : ∀ i x, lk i b' = some x → (backG g g' b' r').β i = g'.β i := fun i x hx => if_pos (hasK_of hx)
  have hβo : ∀ i, hasK i b' = false → (backG g g' b' r').β i = g.β i := fun i hi => if_neg (by rw [hi]; decide)
  have hρb : ∀ i x, lk i r' = some x → (backG g g' b' r').ρ i = g'.ρ i := fun i x hx => if_pos (hasK_of hx)
  have hρo : ∀ i, hasK i r' = false → (backG g g' b' r').ρ i = g.ρ i := fun i hi => if_neg (by rw [hi]; decide)
  have hold' : ∀ k, k < g.w.heap.size → ¬ ownsB g b r k → g'.w.heap[k]? = g.w.heap[k]? := h.below.block
  have hnew : ∀ k, ownsB g' b' r' k → k < g.w.heap.size → ownsB g b r k := fun k hk hlt => (h.own k hk).elim id (fun h => absurd hlt (by omega))
  constructor
  · refine { defers := hR.defers, size := hR.size, tmps := fun t pv ht => ?_, boxes := fun i x hx => ?_, apart := fun i j x y hx hy hij => ?_, rows := fun e x hx => ?_, rbox := fun e x i y hx hy => ?_, rrow := fun e x e' x' k hx hx' hne hk => ?_, bmine := fun i x hx => ?_, rmine := fun e x k hx hk => ?_, below := ?_, base := fun x hx => ?_, lim := h.lim, rho := fun e => ?_, fixed := fun i hi => ?_ }
    · rcases hbx i x hx with h1 | ⟨h1, h2, y, hy, rfl⟩
      · have hok : ∀ p ∈ x.l, ok1 b' r' p = true := fun p hp => List.all_eq_true.1 (lk_all k7 i x h1) p hp
        obtain ⟨⟨cs, a1, a2, a3⟩, a4⟩ := h.hold.boxes i x h1
        exact ⟨⟨cs, by rw [hβb i x h1]; exact a1, a2, fun j p u b1 b2 => hG (hok p (List.mem_of_getElem? b1)) (a3 j p u b1 b2)⟩, fun off => by rw [hβb i x h1]; exact a4 off⟩
      · have hno := hbno i y h2 hy
        exact (hR.boxes i y hy).keep _ (hβo i h1) (hold' _ (hR.toHold.box_lt hy) hno) (fun off => h.base _ ((hR.boxes i y hy).2 off) hno) (fun p hp u hu => hV (List.all_eq_true.1 (lk_all k3 i y hy) p hp) hu)
    · rcases hbx i x hx with h1 | ⟨h1, h2, y1, hy1, rfl⟩ <;> rcases hbx j y hy with h3 | ⟨h3, h4, y2, hy2, rfl⟩
      · rw [hβb i x h1, hβb j y h3]
        exact h.hold.apart i j x y h1 h3 hij
      · rw [hβb i x h1, hβo j h3]
        intro e
        exact hbno j y2 h4 hy2 (hnew _ (.inl ⟨i, x, h1, e⟩) (hR.toHold.box_lt hy2))
      · rw [hβo i h1, hβb j y h3]
        intro e
        exact hbno i y1 h2 hy1 (hnew _ (.inl ⟨j, y, h3, e.symm⟩) (hR.toHold.box_lt hy1))
      · rw [hβo i h1, hβo j h3]
        exact hR.apart i j y1 y2 hy1 hy2 hij
    · rcases hrx e x hx with h1 | ⟨h1, h2, hy⟩
      · obtain ⟨cs, a1, a2, a3, a4⟩ := h.hold.rows e x h1
        exact ⟨cs, by rw [hρb e x h1]; exact a1, a2, a3, by rw [hρb e x h1]; exact a4⟩
      · refine (hR.rows e x hy).keep (hρo e h1) (fun k hk => hold' k (hR.toHold.row_lt hy hk) (hrno e x k h2 hy hk)) (fun k off hk => ⟨fun hm => ?_, fun hm => h.base _ hm (hrno e x k h2 hy hk)⟩) hkeep
        rcases h.mu _ hm with h3 | h3
        · exact h3
        · exact absurd (hnew k h3 (hR.toHold.row_lt hy hk)) (hrno e x k h2 hy hk)
    · rcases hrx e x hx with h1 | ⟨h1, h2, hy1⟩ <;> rcases hbx i y hy with h3 | ⟨h3, h4, y2, hy2, rfl⟩
      · rw [hρb e x h1, hβb i y h3]
        exact h.hold.rbox e x i y h1 h3
      · rw [hρb e x h1, hβo i h3]
        intro he
        exact hbno i y2 h4 hy2 (hnew _ (.inr ⟨e, x, h1, he⟩) (hR.toHold.box_lt hy2))
      · rw [hρo e h1, hβb i y h3]
        intro he
        exact hrno e x _ h2 hy1 he (hnew _ (.inl ⟨i, y, h3, rfl⟩) (hR.toHold.row_lt hy1 he))
      · rw [hρo e h1, hβo i h3]
        exact hR.rbox e x i y2 hy1 hy2
    · rcases hrx e x hx with h1 | ⟨h1, h2, hy1⟩ <;> rcases hrx e' x' hx' with h3 | ⟨h3, h4, hy2⟩
      · rw [hρb e x h1] at hk; rw [hρb e' x' h3]
        exact h.hold.rrow e x e' x' k h1 h3 hne hk
      · rw [hρb e x h1] at hk; rw [hρo e' h3]
        intro he
        exact hrno e' x' k h4 hy2 he (hnew k (.inr ⟨e, x, h1, hk⟩) (hR.toHold.row_lt hy2 he))
      · rw [hρo e h1] at hk; rw [hρb e' x' h3]
        intro he
        exact hrno e x k h2 hy1 hk (hnew k (.inr ⟨e', x', h3, he⟩) (hR.toHold.row_lt hy1 hk))
      · rw [hρo e h1] at hk; rw [hρo e' h3]
        exact hR.rrow e x e' x' k hy1 hy2 hne hk
    · obtain ⟨u, hu, rfl⟩ := lk_map (f := map4 (dgs r)) ht
      exact V4.lift (q := new1 b b' r r') (fun p v h1 h2 => hV h1 h2) (lk_all k2 t u hu) (hR.tmps t u hu)
    · rcases hbx i x hx with h1 | ⟨h1, h2, y, hy, rfl⟩
      · rw [hβb i x h1]
        rcases h.own _ (.inl ⟨i, x, h1, rfl⟩) with h3 | h3
        · exact hmine _ h3
        · exact .inl (Nat.le_trans hR.below.size h3)
      · rw [hβo i h1]; exact hR.bmine i y hy
    · rcases hrx e x hx with h1 | ⟨h1, h2, hy⟩
      · rw [hρb e x h1] at hk
        rcases h.own _ (.inr ⟨e, x, h1, hk⟩) with h3 | h3
        · exact hmine _ h3
        · exact .inl (Nat.le_trans hR.below.size h3)
      · rw [hρo e h1] at hk; exact hR.rmine e x k hy hk
    · refine ⟨h.below.os.trans hR.below.os, h.below.tape.trans hR.below.tape, h.below.output.trans hR.below.output, Nat.le_trans hR.below.size h.below.size, fun k hk hn => ?_⟩
      show g'.w.heap[k]? = _
      rw [hold' k (Nat.lt_of_lt_of_le hk hR.below.size) (fun ho => by
        rcases hmine k ho with h1 | h1
        · omega
        · exact hn h1)]
      exact hR.below.block k hk hn
    · refine h.base x (hR.base x hx) fun ho => ?_
      have hl := c.low x hx
      rcases hmine _ ho with h1 | h1
      · omega
      · exact hl.2 h1
    · show (if hasK e r' = true then g'.ρ e else g.ρ e).oneCell' = true
      split
      · exact h.rho e
      · exact hR.rho e
    · show (if hasK i b' = true then g'.β i else g.β i) = _
      split
      · rename_i h1
        obtain ⟨x, hx⟩ := hasK_lk h1
        have := lk_all k4 i x hx
        simp only [Bool.or_eq_true, Bool.and_eq_true, decide_eq_true_eq] at this
        rcases this with h2 | h2
        · obtain ⟨y, hy⟩ := hasK_lk h2
          rw [h.fixed i y hy]; exact hR.fixed i hi
        · omega
      · exact hR.fixed i hi
  · have := V3.lift (f := id) (q := ok1 b' r') (fun p u h1 h2 => hG h1 h2) k6 h.res
    rwa [map3_id] at this

theorem subL_fz {ids : List Nat} : ∀ {l m : List (Nat × Rw)}, subL l m → (l.all fun p => !(ids.contains p.1)) = true → subL l (m.map (Rw.fz ids))
  | [], _, _, _ => trivial
  | p :: l, m, h, hk => by
    simp only [List.all_cons, Bool.and_eq_true] at hk
    refine ⟨?_, subL_fz h.2 hk.2⟩
    have := lk_of_fz (ids := ids) h.1
    rw [this, hk.1, Bool.and_true]

theorem TL_owns {ops : Array Oper} {o : Oper} {rest : List Oper} {K : S → Prop} (hw : ∀ g a, Rel c s g a → Region.wanted o (yielded ops a.tmps) = true) {f : Nat} {args : List PV} {ob : Prop} {res : PV} {ids : List Nat}
    {b : List (Nat × Bx)} {r : List (Nat × Rw)} {b' : List (Nat × Bx)} {r' : List (Nat × Rw)} (h : callOfO (s.fzn ids) b r o.op = some (f, args, ob)) (hob : ob) (hd : dstOk s o.dst = true)
    (hm : Owns P f args b r res b' r') (hsb : subL b (s.fzn ids).b) (hsr : subL r (s.fzn ids).r) (hk : backOk (s.fzn ids) b r res b' r' = true)
    (k : TL P c ops rest ((backS (s.fzn ids) b r b' r').put o.dst res) K) : TL P c ops (o :: rest) s K := by
  intro g a Q hR hQ
  unfold wpList
  rw [if_pos (hw g a hR)]
  refine .inl ?_
  obtain ⟨g1, hs1, hw1, hR1⟩ := hR.fzn ids
  obtain ⟨vs, hl, hA, hrun⟩ := callOfO_sound (P := P) hR1 h hob
  unfold Oper.wp
  rw [hrun hm.enter, ← hw1]
  refine (hm.calls g1 _ hR1.lim hR1.rho (hR1.toHold.sub (subL_lk hsb) (subL_lk hsr)) hl hA).mono fun e w' ⟨v, g', he', hw', hend⟩ => ?_
  subst he'
  subst hw'
  obtain ⟨hR2, hv⟩ := hR1.back hsb hsr hk hend
  exact k (backG g1 g' b' r') _ Q (hR2.put1 (by unfold dstOk at hd ⊢; exact (show (match o.dst with | some d => decide (d < (s.fzn ids).n) | none => true) = true by rw [fzn_n]; exact hd)) hv) hQ

theorem W_funO (hE : POK P E) {f : Nat} {fn : Func} {code : Code} {args : List PV} {b : List (Nat × Bx)} {r : List (Nat × Rw)} {res : PV} {b' : List (Nat × Bx)} {r' : List (Nat × Rw)}
    (hf : P.funcs[f]? = some fn) (hb : fn.body = some code) (hnm : (fn.name == "runtime.NumGoroutine") = false) (hn : args.length ≤ fn.ntmps) (hids : (b.all fun p => decide (100000 ≤ p.1)) = true)
    (h : ∀ c, Lens (entryO fn.ntmps args b r) → W P E c (EndsO E fn.results.toList res b' r') 1000 code (entryO fn.ntmps args b r) []) : Owns P f args b r res b' r' :=
  Owns_of_T hE.te hf hb hnm hn hids fun c => T_lens fun hl => W_sound hE 1000 (h c hl)

def COk (x : Option (Nat × List PV × Prop)) (f : Nat) (args : List PV) : Prop :=
  match x with
  | some (f', args', ob) => f' = f ∧ args' = args ∧ ob
  | none => False
/-- A call that hands over and gets back. -/
theorem WC_owns (hE : POK P E) {Q : Exit → S → Prop} {ops : Array Oper} {o : Oper} {rs : List Oper} {k : List Fr} {f f0 : Nat} {args args0 : List PV} {res : PV} {b : List (Nat × Bx)} {r : List (Nat × Rw)} {b' : List (Nat × Bx)} {r' : List (Nat × Rw)}
    (hm : Owns P f args b r res b' r')
    (hc : COk (callOfO (s.fzn (callRidsO s b r o.op)) b r o.op) f args) (hsb : subL b (s.fzn (callRidsO s b r o.op)).b) (hsr : subL r (s.fzn (callRidsO s b r o.op)).r) (hk : backOk (s.fzn (callRidsO s b r o.op)) b r res b' r' = true)
    (h : WL P E c Q (W P E c Q 1000) ops rs ((backS (s.fzn (callRidsO s b r o.op)) b r b' r').put o.dst res) k) : WC P c Q ops o rs s k f0 args0 := by
  intro ob h1 h2 h3 h4
  unfold COk at hc
  split at hc
  case h_2 => exact hc.elim
  rename_i f' args' ob' hc1
  obtain ⟨rfl, rfl, hc2⟩ := hc
  exact TL_owns h4 hc1 hc2 h3 hm hsb hsr hk (WL_sound hE.te (fun h => W_sound hE 1000 h) h)

/-- Nil slices taken for rows of one's own, in the middle of a body. -/
theorem T_adopt {code : Code} {s s1 : S} {Q : Exit → S → Prop} {l : List Ad} (h : adopt s l = some s1) (k : T P c code s1 Q) : T P c code s Q := by
  intro g a hR
  obtain ⟨g', e, hR'⟩ := hR.adopt h
  rw [← e]
  exact k g' a hR'
/-- .. ahead of a loop. -/
def SubA (s0 : S) : Option S → Prop
  | some s => Sub s0 s
  | none => False
theorem W_loopA (hE : POK P E) {Q : Exit → S → Prop} {x : Code} {k : List Fr} {ι : Type} (l : List Ad) (st : ι → S) (inv : ι → Prop) (μ : ι → Nat) (i0 : ι) (h0 : inv i0) (hs : SubA (st i0) (adopt s l))
    (h : ∀ i, inv i → Lens (st i) → ∀ B : S → Prop, (∀ j s', inv j → μ j < μ i → Sub (st j) s' → B s') → W P E c Q 1000 x (st i) (.back B :: k)) : T P c (.loop x) s (QF P c Q k) := by
  unfold SubA at hs
  split at hs
  · rename_i s1 h1
    exact T_adopt h1 (W_loop hE st inv μ i0 h0 hs h)
  · exact hs.elim
attribute [go_sem] entryO resOneO resAllO resPVO EndP subL EndO EndsO hasK ok1 argO evArgsO callOfO argRidsO callRidsO new1 dgs dropKs backS backOk COk
end Go.Mh
