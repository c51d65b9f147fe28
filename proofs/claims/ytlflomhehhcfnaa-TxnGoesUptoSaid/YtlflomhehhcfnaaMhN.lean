/- Regions that draw their order and write: one order serves all. -/
import Derived.Test.YtlflomhehhcfnaaMhM
import Derived.OrdersHeld
namespace Go.Mh
open Go Go.RowKit
variable {P : Program} {E : TE} {c : Ctx} {s : S} {g : G} {a : Act}

/-- Operations that leave the world alone. -/
def isPure : Op → Bool
  | .move _ | .assign _ | .pick _ _ _ | .load _ _ | .fieldAddr _ _ _ | .field _ _ _ | .indexAddr _ _ _ | .index _ _ _ | .binOp _ _ _ _ _ | .unOp _ _ _ | .extract _ _ | .build _ _ | .nilCheck _ | .convert _ _ _ => true
  | .call cl => match cl.callee with
    | .builtin .len => true
    | _ => false
  | _ => false

def opAt (ops : Array Oper) (i : Nat) (q : Op → Bool) : Bool := match ops[i]? with | some o => q o.op | none => false

/-- What waits for operation i. -/
def descs (md : Region.Mode) (ops : Array Oper) (i : Nat) : List Nat :=
  (List.range ops.size).foldl (fun acc j => match ops[j]? with | some o => if o.after.any (fun e => Region.binds md e && (e.on == i || acc.contains e.on)) = true then j :: acc else acc | none => acc) []
/-- Whoever writes waits for i. -/
def dOk (md : Region.Mode) (ops : Array Oper) (listed : Array Bool) (i : Nat) : Bool :=
  ((descs md ops i).all fun j => (!listed.getD j true) && (match ops[j]? with | some o => o.after.any (fun e => Region.binds md e && (e.on == i || (descs md ops i).contains e.on)) | none => false)) &&
  (List.range ops.size).all fun j => !(opAt ops j isD) || listed.getD j true || (descs md ops i).contains j

def ordOk (md : Region.Mode) (ops : Array Oper) : List Nat → Array Bool → Bool
  | [], listed => (Region.ready md ops listed).isEmpty
  | i :: r, listed =>
    (match ops[i]? with
      | some o => if isPure o.op = true then (Region.ready md ops listed).contains i && Region.free md ops listed i && (!(isLoad o.op) || dOk md ops listed i) else Region.ready md ops listed == [i]
      | none => false) && ordOk md ops r (listed.setIfInBounds i true)

/-- Whatever order is picked from here on; what does not write keeps what stood. -/
def wpAnyE (P : Program) (md : Region.Mode) (ops : Array Oper) (Q : Exit → Act → World → Prop) : Nat → Array Bool → Act → World → Prop
  | 0, listed, a, w => Region.ready md ops listed = [] ∧ Q .normal a w
  | fuel + 1, listed, a, w =>
    (Region.ready md ops listed = [] → Q .normal a w) ∧
    ∀ i ∈ Region.ready md ops listed, wpOp P ops Q i (fun a' w' => (opAt ops i isD = false → Ext w w') ∧ wpAnyE P md ops Q fuel (listed.setIfInBounds i true) a' w') a w

section
variable {ops : Array Oper} {md : Region.Mode} {Q : Exit → Act → World → Prop}
theorem wpAny_of_E : ∀ (fuel : Nat) (listed : Array Bool) (a : Act) (w : World), wpAnyE P md ops Q fuel listed a w → wpAny P md ops Q fuel listed a w
  | 0, _, _, _, h => h
  | fuel + 1, _, _, _, h => ⟨h.1, fun i hi => wpOp_mono (fun a' w' h' => wpAny_of_E fuel _ a' w' h'.2) (h.2 i hi)⟩

theorem Ext.refl (w : World) : Ext w w := fun _ _ h => h
theorem Ext.trans {w w' w'' : World} (h1 : Ext w w') (h2 : Ext w' w'') : Ext w w'' := fun x u h => h2 x u (h1 x u h)

theorem wpAnyE_first {i : Nat} {oi : Oper} {v : Value} (hi : ops[i]? = some oi) (hsel : ∀ (j : Nat) (o : Oper) cs b, ops[j]? = some o → o.op ≠ .select cs b)
    (hQ : ∀ c a w, Q (.panic c) (a.put oi.dst v) w → Q (.panic c) a w) {dep : Bool} {D : List Nat} (hp : opAt ops i isD = false)
    (hD : ∀ j ∈ D, ∃ oj, ops[j]? = some oj ∧ ∃ e ∈ oj.after, Region.binds md e = true ∧ (e.on = i ∨ e.on ∈ D)) :
    ∀ (fuel : Nat) (listed : Array Bool) (a : Act) (w : World),
      (∀ j oj, ops[j]? = some oj → j ≠ i → listed.getD j true = false → (∀ e ∈ oj.after, Region.binds md e = true → e.on ≠ i) → oi.apart ops oj = true) →
      i ∈ Region.ready md ops listed → YieldsIf P ops (fun w' => dep = true → Ext w w') oi v a →
      (dep = true → (∀ j ∈ D, listed.getD j true = false) ∧ ∀ j, opAt ops j isD = true → listed.getD j true = false → j ∈ D) →
      wpAnyE P md ops Q fuel (listed.setIfInBounds i true) (a.put oi.dst v) w → wpAnyE P md ops Q (fuel + 1) listed a w := by
  intro fuel
  induction fuel with
  | zero =>
    intro listed a w _ hr hy hd H
    refine ⟨fun h => (by rw [h] at hr; cases hr), fun j hj => ?_⟩
    by_cases hji : j = i
    · subst hji; exact hy.wpOp hi (fun _ => Ext.refl w) ⟨fun _ => Ext.refl w, H⟩
    · have := ready_mono hj hji
      rw [H.1] at this
      cases this
  | succ fuel ih =>
    intro listed a w hfree hr hy hd H
    refine ⟨fun h => (by rw [h] at hr; cases hr), fun j hj => ?_⟩
    by_cases hji : j = i
    · subst hji; exact hy.wpOp hi (fun _ => Ext.refl w) ⟨fun _ => Ext.refl w, H⟩
    · have h1 := H.2 j (ready_mono hj hji)
      obtain ⟨hjun, oj, hoj, hall⟩ := mem_ready.1 hj
      have hiun := (mem_ready.1 hr).1
      have off : ∀ k, listed.getD k false = true → listed.getD k true = true := fun k h => by
        rcases Nat.lt_or_ge k listed.size with h' | h'
        · simp [h'] at h ⊢; exact h
        · simp [Array.getElem?_eq_none h'] at h
      have hnot : ∀ e ∈ oj.after, Region.binds md e = true → e.on ≠ i := fun e he hb heq => by
        have h1 := off _ (hall e he hb)
        rw [heq, hiun] at h1
        cases h1
      have hjD : dep = true → j ∉ D := fun hdep hm => by
        obtain ⟨oj', hoj', e, he, hb, ho⟩ := hD j hm
        rw [hoj] at hoj'
        cases hoj'
        have h1 := off _ (hall e he hb)
        rcases ho with ho | ho
        · rw [ho, hiun] at h1; cases h1
        · rw [(hd hdep).1 _ ho] at h1; cases h1
      have hjn : dep = true → opAt ops j isD = false := fun hdep => by
        rw [Bool.eq_false_iff]
        intro h
        exact hjD hdep ((hd hdep).2 j h hjun)
      have h2 := wpOp_putIf hoj (hfree j oj hoj hji hjun hnot) (fun cs b => hsel i oi cs b hi) (fun cs b => hsel j oj cs b hoj) hQ hy h1
      have hfree' : ∀ k ok, ops[k]? = some ok → k ≠ i → (listed.setIfInBounds j true).getD k true = false →
          (∀ e ∈ ok.after, Region.binds md e = true → e.on ≠ i) → oi.apart ops ok = true := fun k ok hk hki hun hno => by
        refine hfree k ok hk hki ?_ hno
        by_cases hjk : j = k
        · subst hjk; exact hjun
        · rw [getD_set_ne true hjk] at hun; exact hun
      refine wpOp_mono (fun a' w' h3 => ⟨h3.2.1, ih (listed.setIfInBounds j true) a' w' hfree' (ready_mono hr (Ne.symm hji)) ?_ ?_ ?_⟩) h2
      · rcases h3.1 with ⟨h4, h5⟩ | h4
        · exact .inl ⟨h4, fun w'' hw'' => h5 w'' fun hdep => (h3.2.1 (hjn hdep)).trans (hw'' hdep)⟩
        · exact .inr h4
      · intro hdep
        obtain ⟨e1, e2⟩ := hd hdep
        refine ⟨fun k hk => ?_, fun k hk hun => ?_⟩
        · rw [getD_set_ne true (fun h : j = k => hjD hdep (by rw [h]; exact hk))]
          exact e1 k hk
        · refine e2 k hk ?_
          by_cases hjk : j = k
          · subst hjk; exact hjun
          · rw [getD_set_ne true hjk] at hun; exact hun
      · rw [Array.setIfInBounds_comm _ _ hji]
        exact h3.2.2

theorem dOk_spec {listed : Array Bool} {i : Nat} (h : dOk md ops listed i = true) :
    (∀ j ∈ descs md ops i, ∃ oj, ops[j]? = some oj ∧ ∃ e ∈ oj.after, Region.binds md e = true ∧ (e.on = i ∨ e.on ∈ descs md ops i)) ∧
    (∀ j ∈ descs md ops i, listed.getD j true = false) ∧ ∀ j, opAt ops j isD = true → listed.getD j true = false → j ∈ descs md ops i := by
  unfold dOk at h
  rw [Bool.and_eq_true] at h
  obtain ⟨h1, h2⟩ := h
  refine ⟨fun j hj => ?_, fun j hj => ?_, fun j hD hun => ?_⟩
  · have := List.all_eq_true.1 h1 j hj
    rw [Bool.and_eq_true] at this
    have h3 := this.2
    split at h3
    · rename_i oj hoj
      obtain ⟨m, hm, hb⟩ := Array.any_eq_true.1 h3
      simp only [Bool.and_eq_true, Bool.or_eq_true, beq_iff_eq, List.contains_iff_mem] at hb
      exact ⟨oj, hoj, oj.after[m], Array.getElem_mem hm, hb.1, hb.2⟩
    · cases h3
  · have := List.all_eq_true.1 h1 j hj
    rw [Bool.and_eq_true] at this
    simpa using this.1
  · have hlt : j < ops.size := by
      unfold opAt at hD
      split at hD
      · rename_i o ho; exact (Array.getElem?_eq_some_iff.1 ho).1
      · cases hD
    have := List.all_eq_true.1 h2 j (List.mem_range.2 hlt)
    rw [hD, hun] at this
    simpa [List.contains_iff_mem] using this
end

/-- From here on a region's operations, in this order and in any other that there may be, go to an end where K holds. -/
def DL (P : Program) (c : Ctx) (ops : Array Oper) (ord : List Nat) (s : S) (K : S → Prop) : Prop :=
  ∀ listed g a, ordOk .any ops ord listed = true → Rel c s g a → wpAnyE P .any ops (fun x a' w' => x = .normal ∧ ∃ s' g', K s' ∧ g'.w = w' ∧ Rel c s' g' a') ord.length listed a g.w

section
variable {ops : Array Oper} {K : S → Prop} {ord : List Nat} {i : Nat} {o : Oper}
theorem DL_nil (h : K s) : DL P c ops [] s K := fun listed g a hO hR => ⟨by simpa [ordOk] using hO, rfl, s, g, h, rfl, hR⟩

theorem pure_isD {op : Op} (h : isPure op = true) : isD op = false := by
  unfold isPure at h
  split at h <;> first | rfl | cases h | skip
  split at h
  · rename_i cl _ hc; unfold isD; simp only [hc]
  · cases h

theorem DL_pure (hE : TEOK P E) (hs : Region.noSelect ops = true) (hi : ops[i]? = some o) (hp : isPure o.op = true) {s' : S} {ob : Prop} (h : qstep E ops s o = some (s', ob)) (hob : ob) (k : DL P c ops ord s' K) : DL P c ops (i :: ord) s K := by
  intro listed g a hO hR
  unfold ordOk at hO
  rw [hi] at hO
  simp only [hp, if_true, Bool.and_eq_true] at hO
  obtain ⟨⟨⟨h1, h2⟩, h3⟩, h4⟩ := hO
  have hD : opAt ops i isD = false := by unfold opAt; rw [hi]; exact pure_isD hp
  have go : ∀ {v : Value}, YieldsIf P ops (fun w' => isLoad o.op = true → Ext g.w w') o v a → Rel c s' g (a.put o.dst v) →
      wpAnyE P .any ops (fun x a' w' => x = .normal ∧ ∃ s' g', K s' ∧ g'.w = w' ∧ Rel c s' g' a') (ord.length + 1) listed a g.w := by
    intro v hy hR'
    by_cases hl : isLoad o.op = true
    · rw [hl] at h3
      obtain ⟨d1, d2, d3⟩ := dOk_spec (by simpa using h3)
      exact wpAnyE_first hi (Region.noSelect_spec hs) (fun _ _ _ h => by cases h.1) (dep := isLoad o.op) hD d1 _ listed a g.w (Region.free_spec hi h2) (by simpa using h1) hy (fun _ => ⟨d2, d3⟩) (k _ g _ h4 hR')
    · exact wpAnyE_first (D := []) hi (Region.noSelect_spec hs) (fun _ _ _ h => by cases h.1) (dep := isLoad o.op) hD (fun j h => by cases h) _ listed a g.w (Region.free_spec hi h2) (by simpa using h1) hy (fun h => absurd h hl) (k _ g _ h4 hR')
  unfold qstep at h
  split at h
  · rename_i pv ob' hpop
    split at h
    · rename_i hd
      split at h
      · rename_i hg
        cases h
        obtain ⟨v, e1, e2⟩ := pop_sound hE hR hpop hob
        exact go (.inl ⟨by unfold Region.wanted; rw [hg], e1⟩) (hR.put1 hd e2)
      · rename_i j want hg
        split at h
        · rename_i q hq
          cases h
          have hw := gw_sound hR hg hq
          cases q with
          | true =>
            obtain ⟨v, e1, e2⟩ := pop_sound hE hR hpop (hob rfl)
            exact go (.inl ⟨hw, e1⟩) (hR.put _ (fun i hi => by rw [hi] at hd; simpa [dstOk] using hd) (show (if true = true then V3 g pv v else v = undef) from e2))
          | false => exact go (.inr ⟨hw, rfl⟩) (hR.put _ (fun i hi => by rw [hi] at hd; simpa [dstOk] using hd) (show (if false = true then V3 g pv undef else undef = undef) from rfl))
        · cases h
    · cases h
  · cases h

theorem ord_eff {listed : Array Bool} (hi : ops[i]? = some o) (hp : isPure o.op = false) (hO : ordOk .any ops (i :: ord) listed = true) : Region.ready .any ops listed = [i] ∧ ordOk .any ops ord (listed.setIfInBounds i true) = true := by
  unfold ordOk at hO
  rw [hi] at hO
  simp only [hp, Bool.and_eq_true, Bool.false_eq_true, if_false, beq_iff_eq] at hO
  exact hO

/-- The only one that may come up. -/
theorem DL_one (hi : ops[i]? = some o) (hp : isPure o.op = false)
    (h : ∀ g a (K' : Act → World → Prop), Rel c s g a → (∀ s' g' a', DL P c ops ord s' K → Rel c s' g' a' → (isD o.op = false → Ext g.w g'.w) → K' a' g'.w) →
      wpOp P ops (fun x a' w' => x = .normal ∧ ∃ s' g', K s' ∧ g'.w = w' ∧ Rel c s' g' a') i K' a g.w) : DL P c ops (i :: ord) s K := by
  intro listed g a hO hR
  obtain ⟨h1, h2⟩ := ord_eff hi hp hO
  refine ⟨fun h => (by rw [h1] at h; cases h), fun j hj => ?_⟩
  rw [h1] at hj
  have : j = i := by simpa using hj
  subst this
  refine h g a _ hR fun s' g' a' k hR' hx => ⟨fun hd => hx (by unfold opAt at hd; rw [hi] at hd; exact hd), k _ g' a' h2 hR'⟩

theorem DL_skip (hi : ops[i]? = some o) (hp : isPure o.op = false) (hg : gq s ops o = some false) (hd : dstOk s o.dst = true) (k : DL P c ops ord (s.put o.dst (.opt false (.bool false))) K) : DL P c ops (i :: ord) s K :=
  DL_one hi hp fun g a K' hR hK => by
    unfold wpOp
    simp only [hi]
    rw [if_neg (by rw [gq_sound hR hg]; decide)]
    exact hK _ g _ k (hR.put _ (fun i hi => by rw [hi] at hd; simpa [dstOk] using hd) (show (if false = true then V3 g (.bool false) undef else undef = undef) from rfl)) (fun _ => Ext.refl _)

theorem DL_eff (hE : TEOK P E) (hi : ops[i]? = some o) (hp : isPure o.op = false) (hg : gq s ops o = some true) {s' : S} {ob : Prop} (h : stepU E s o.dst o.op = some (s', ob)) (hob : ob) (k : DL P c ops ord s' K) : DL P c ops (i :: ord) s K :=
  DL_one hi hp fun g a K' hR hK => by
    unfold wpOp
    simp only [hi]
    rw [if_pos (gq_sound hR hg)]
    refine .inl ?_
    obtain ⟨n, w', v, hr, hn, hx, g', hw, hR'⟩ := stepU_sound hE hR h hob
    have := hK s' g' _ k hR' (fun hd => by rw [hw]; exact hx hd)
    unfold Oper.wp
    rw [hr]
    rw [hw] at this
    rcases hn with rfl | ⟨rfl, rfl⟩ <;> exact this

theorem call_isD {f : Nat} {args : List PV} {ob : Prop} {s : S} {op : Op} (h : callOf s op = some (f, args, ob)) : isD op = false := by
  unfold callOf at h
  split at h
  · rename_i cl
    split at h
    · rename_i hc _
      unfold calleeOf at hc
      split at hc
      · rename_i x hx
        show (match cl.callee with | .builtin .append => true | .builtin .copy => true | _ => false) = false
        rw [hx]
      · cases hc
    · cases h
  · cases h

theorem DL_call (hi : ops[i]? = some o) (hp : isPure o.op = false) (hg : gq s ops o = some true) {f : Nat} {args : List PV} {ob : Prop} {res : PV} {ids : List Nat}
    (h : callOf (s.fzn ids) o.op = some (f, args, ob)) (hob : ob) (hd : dstOk s o.dst = true) (hm : Meets P f args res)
    (k : DL P c ops ord ((if (scal res).isSome = true then s else s.fzn ids).put o.dst res) K) : DL P c ops (i :: ord) s K :=
  DL_one hi hp fun g a K' hR hK => by
    unfold wpOp
    simp only [hi]
    rw [if_pos (gq_sound hR hg)]
    refine .inl ?_
    obtain ⟨g1, hs1, hw1, hR1⟩ := hR.fzn ids
    obtain ⟨vs, hA, hrun⟩ := callOf_sound (P := P) hR1 h hob
    unfold Oper.wp
    rw [hrun hm.enter, ← hw1]
    refine (hm.calls g1.w g1.mu _ hR1.lim hA).mono fun e w' ⟨v, he', hv, hb⟩ => ?_
    subst he'
    split at k
    · rename_i hs
      obtain ⟨v0, hv0⟩ := Option.isSome_iff_exists.1 hs
      rw [scal_eq hv0 hv]
      rw [hw1] at hb
      exact hK _ { g with w := w' } _ k ((hR.ext hb).put1 hd (V3_of_scal hv0)) (fun _ => ext_of_below hb)
    · exact hK _ { g1 with w := w' } _ k ((hR1.ext hb).put1 (by unfold dstOk at hd ⊢; rw [fzn_n]; exact hd) (V3_of_Res hv)) (fun _ => by rw [hw1] at hb; exact ext_of_below hb)
end

/-- A call in such a region that waits for its contract. -/
def WEC (P : Program) (c : Ctx) (Q : Exit → S → Prop) (w : Code → S → List Fr → Prop) (ops : Array Oper) (o : Oper) (r : List Oper) (s : S) (k : List Fr) (f : Nat) (args : List PV) : Prop :=
  ∀ ob, callOf (s.fzn (callRids s o.op)) o.op = some (f, args, ob) → ob → dstOk s o.dst = true → gq s ops o = some true → isPure o.op = false → ∀ (i : Nat) (ord : List Nat), ops[i]? = some o → r = ord.filterMap (ops[·]?) → Region.noSelect ops = true → DL P c ops (i :: ord) s (fun s' => WN Q w s' k)

def WE (P : Program) (E : TE) (c : Ctx) (Q : Exit → S → Prop) (w : Code → S → List Fr → Prop) (ops : Array Oper) : List Oper → S → List Fr → Prop
  | [], s, k => WN Q w s k
  | o :: r, s, k =>
    if isPure o.op = true then
      match qstep E ops s o with
      | some (s', ob) => ob ∧ WE P E c Q w ops r s' k
      | none => False
    else
      match gq s ops o with
      | some q =>
        (q = false → dstOk s o.dst = true ∧ WE P E c Q w ops r (s.put o.dst (.opt false (.bool false))) k) ∧
        (q = true →
          match stepU E s o.dst o.op with
          | some (s', ob) => ob ∧ WE P E c Q w ops r s' k
          | none =>
            match callOf (s.fzn (callRids s o.op)) o.op with
            | some (f, args, ob) => ob ∧ dstOk s o.dst = true ∧ WEC P c Q w ops o r s k f args
            | none => False)
      | none => False

theorem WE_sound (hE : TEOK P E) {Q : Exit → S → Prop} {w : Code → S → List Fr → Prop} {ops : Array Oper} {k : List Fr} (hs : Region.noSelect ops = true) : ∀ {ord : List Nat} {s : S},
    (∀ i ∈ ord, ∃ o, ops[i]? = some o) → WE P E c Q w ops (ord.filterMap (ops[·]?)) s k → DL P c ops ord s (fun s' => WN Q w s' k)
  | [], s, _, h => DL_nil h
  | i :: ord, s, hv, h => by
    obtain ⟨o, hi⟩ := hv i List.mem_cons_self
    have hv' : ∀ i ∈ ord, ∃ o, ops[i]? = some o := fun j hj => hv j (List.mem_cons_of_mem _ hj)
    rw [List.filterMap_cons] at h
    simp only [hi] at h
    unfold WE at h
    split at h
    · rename_i hp
      split at h
      · rename_i s' ob hq
        exact DL_pure hE hs hi hp hq h.1 (WE_sound hE hs hv' h.2)
      · exact h.elim
    · rename_i hp
      have hp : isPure o.op = false := by simpa using hp
      split at h
      · rename_i q hg
        cases q with
        | false =>
          obtain ⟨h1, h2⟩ := h.1 rfl
          exact DL_skip hi hp hg h1 (WE_sound hE hs hv' h2)
        | true =>
          have h := h.2 rfl
          split at h
          · rename_i s' ob hu
            exact DL_eff hE hi hp hg hu h.1 (WE_sound hE hs hv' h.2)
          · split at h
            · rename_i f args ob hc
              exact h.2.2 ob hc h.1 h.2.1 hg hp i ord hi rfl hs
            · exact h.elim
      · exact h.elim

def inB (ops : Array Oper) (ord : List Nat) : Bool := ord.all fun i => (ops[i]?).isSome
theorem T_draw (hE : POK P E) {Q : Exit → S → Prop} {id : Nat} {ops : Array Oper} {k : List Fr} (ord : List Nat)
    (hO : (Region.noSelect ops && (inB ops ord && (ord.length == ops.size && ordOk .any ops ord (Array.replicate ops.size false)))) = true)
    (h : WE P E c Q (W P E c Q 1000) ops (ord.filterMap (ops[·]?)) s k) : T P c (.region id ops true) s (QF P c Q k) := by
  simp only [Bool.and_eq_true, beq_iff_eq] at hO
  obtain ⟨hs, hb, hl, hO⟩ := hO
  have hv : ∀ i ∈ ord, ∃ o, ops[i]? = some o := fun i hi => Option.isSome_iff_exists.1 (List.all_eq_true.1 hb i hi)
  intro g a hR
  have hR' := hR.drew 1
  have hd := WE_sound (c := c) hE.te hs hv h _ { g with w := g.w.drewN 1 } a hO hR'
  rw [hl] at hd
  have h1 := wp_region_any (id := id) hE.mixed (wpAny_of_E _ _ _ _ hd)
  exact wp_mono h1 fun e a' w' ⟨he, s', g', hk, hw, hR2⟩ => by
    subst he
    exact ⟨s', g', WN_sound (fun h => W_sound hE 1000 h) hk, hw, hR2⟩

theorem WEC_meets (hE : POK P E) {Q : Exit → S → Prop} {w : Code → S → List Fr → Prop} {ops : Array Oper} {o : Oper} {r : List Oper} {k : List Fr} {f : Nat} {args : List PV} {res : PV} (hm : Meets P f args res)
    (hin : r.length = r.length) (h : WE P E c Q w ops r ((if (scal res).isSome = true then s else s.fzn (callRids s o.op)).put o.dst res) k) : WEC P c Q w ops o r s k f args := by
  intro ob h1 h2 h3 h4 h5 i ord hi hr hs
  subst hr
  intro listed g a hO hR
  have hv : ∀ i ∈ ord, ∃ o, ops[i]? = some o := by
    have key : ∀ (l : List Nat) (li : Array Bool), ordOk .any ops l li = true → ∀ i ∈ l, ∃ o, ops[i]? = some o := by
      intro l
      induction l with
      | nil => intro li _ i hi; cases hi
      | cons m l ih =>
        intro li hl i hi
        unfold ordOk at hl
        rw [Bool.and_eq_true] at hl
        rcases List.mem_cons.1 hi with e | hi
        · subst e
          cases hq : ops[i]? with
          | none => rw [hq] at hl; exact Bool.noConfusion hl.1
          | some o => exact ⟨o, rfl⟩
        · exact ih _ hl.2 i hi
    exact fun j hj => key _ _ hO j (List.mem_cons_of_mem _ hj)
  exact DL_call hi h5 h4 h1 h2 h3 hm (WE_sound hE.te hs hv h) listed g a hO hR
attribute [go_sem] WE isPure
end Go.Mh
