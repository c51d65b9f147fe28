/- All of a body's plain code by one evaluation. -/
import Derived.Test.YtlflomhehhcfnaaMhJ
import Derived.Deep.Quiet
import Derived.Laws.Cover3
import Derived.Laws.BitsLemmas
namespace Go.Mh
open Go Go.RowKit
variable {P : Program} {E : TE} {c : Ctx} {s : S} {g : G} {a : Act}

def evArgs (s : S) : List Operand → Option (List PV × Prop)
  | [] => some ([], True)
  | x :: r =>
    match evp s x, evArgs s r with
    | some (v, o), some (l, p) => match frzN s v with
      | some q => some (q :: l, o ∧ p)
      | none => none
    | _, _ => none

def calleeOf (s : S) : Callee → Option (Nat × List PV × Prop)
  | .value x => match evp s x with
    | some (.clo f l, o) => some (f, l, o)
    | _ => none
  | _ => none
def callOf (s : S) : Op → Option (Nat × List PV × Prop)
  | .call cl =>
    match calleeOf s cl.callee, evArgs s cl.args.toList with
    | some (f, m, o), some (l, p) => some (f, l ++ m, o ∧ p)
    | _, _ => none
  | _ => none
def callRids (s : S) : Op → List Nat
  | .call cl => argRids s cl.args.toList
  | _ => []

theorem evArgs_sound (hR : Rel c s g a) : ∀ {xs : List Operand} {l : List PV} {ob : Prop}, evArgs s xs = some (l, ob) → ob → ArgsR g.w g.mu l (xs.map a.eval)
  | [], l, ob, h, _ => by
    simp only [evArgs, Option.some.injEq, Prod.mk.injEq] at h
    rw [← h.1]
    exact ⟨rfl, fun i p v h2 => by simp at h2⟩
  | x :: r, l, ob, h, ho => by
    unfold evArgs at h
    split at h
    · rename_i v o m p h1 h2
      split at h
      · rename_i q hq
        cases h
        obtain ⟨h3, h4⟩ := evArgs_sound hR h2 ho.2
        have hv := evp_sound hR h1 ho.1
        have hnt : ∀ l, v ≠ .tup l := fun l e => by subst e; cases hq
        have hd := frzN_sound hR hq (V2_of_V3 hnt hv)
        refine ⟨by simpa using h3, fun i p' v' a1 a2 => ?_⟩
        cases i with
        | zero =>
          simp at a1 a2
          subst a1; subst a2
          exact hd
        | succ i => exact h4 i p' v' (by simpa using a1) (by simpa using a2)
      · cases h
    · cases h

theorem ResR_iff {w : World} {mu : Addr → Prop} {p : PV} {v : Value} (hn : ∀ l, p ≠ .tup l) : ResR w mu p v ↔ RRel w mu p v := by
  cases p <;> first | exact Iff.rfl | exact absurd rfl (hn _)
theorem V3_of_Res {p : PV} {v : Value} (h : ResR g.w g.mu p v) : V3 g p v := by
  rcases tup_or p with ⟨l, rfl⟩ | hn
  · obtain ⟨vs, rfl, h1, h2⟩ := h
    exact ⟨vs, rfl, h1, fun i p u a b => .of (h2 i p u a b)⟩
  · exact V3.of ((ResR_iff hn).1 h)

theorem Rel.ext (h : Rel c s g a) {w' : World} (hb : Below g.w.heap.size g.w w') : Rel c s { g with w := w' } a :=
  h.world (g' := { g with w := w' }) (fun k hk => hb.block k hk) hb.size rfl rfl rfl (h.below.below hb)
theorem ext_of_below {w w' : World} (hb : Below w.heap.size w w') : Ext w w' := fun x u h => (hb.cell (World.block_lt_of_cell? w x h)).trans h

/-- A result that is one value, whatever the world. -/
def scal1 : PV → Option Value
  | .int k n => some (.int k n)
  | .bool b => some (.bool b)
  | .str b => some (.string b)
  | .nils => some (.slice none 0 0)
  | _ => none
def scalL : List PV → Option (List Value)
  | [] => some []
  | p :: l => match scal1 p, scalL l with
    | some v, some m => some (v :: m)
    | _, _ => none
def scal2 : PV → Option Value
  | .agg l => (scalL l).map fun m => .agg m.toArray
  | p => scal1 p
def scalL2 : List PV → Option (List Value)
  | [] => some []
  | p :: l => match scal2 p, scalL2 l with
    | some v, some m => some (v :: m)
    | _, _ => none
def scal : PV → Option Value
  | .tup l => (scalL2 l).map fun m => .tuple m.toArray
  | p => scal2 p

section
variable {w : World} {mu : Addr → Prop}
theorem scal1_eq {p : PV} {v u : Value} (h : scal1 p = some v) (hr : RRel w mu p u) : u = v := by
  cases hr <;> simp [scal1] at h <;> exact h
theorem scalL_eq : ∀ {l : List PV} {m us : List Value}, scalL l = some m → us.length = l.length → (∀ (i : Nat) p u, l[i]? = some p → us[i]? = some u → RRel w mu p u) → us = m
  | [], m, us, h, hl, _ => by
    cases h
    exact List.eq_nil_of_length_eq_zero hl
  | p :: l, m, us, h, hl, hr => by
    unfold scalL at h
    split at h
    · rename_i v m' h1 h2
      cases h
      match us, hl with
      | u :: us, hl =>
        have e1 := scal1_eq h1 (hr 0 p u rfl rfl)
        have e2 := scalL_eq (us := us) h2 (by simpa using hl) (fun i p u a b => hr (i + 1) p u (by simpa using a) (by simpa using b))
        rw [e1, e2]
    · cases h
theorem scal2_eq {p : PV} {v u : Value} (h : scal2 p = some v) (hr : RRel w mu p u) : u = v := by
  cases hr with
  | agg l vs hl hv =>
    simp only [scal2, Option.map_eq_some_iff] at h
    obtain ⟨m, hm, e⟩ := h
    rw [← e, scalL_eq hm hl hv]
  | sl xs A c sz u hc hm hsz hA h' => cases h
  | eptr l ad u hA h' => cases h
  | clo f l vs hl h' => cases h
  | int k n => exact scal1_eq (w := w) (mu := mu) (p := .int k n) h (.int k n)
  | bool b => exact scal1_eq (w := w) (mu := mu) (p := .bool b) h (.bool b)
  | str b => exact scal1_eq (w := w) (mu := mu) (p := .str b) h (.str b)
  | nils => exact scal1_eq (w := w) (mu := mu) (p := .nils) h .nils
theorem scalL2_eq : ∀ {l : List PV} {m us : List Value}, scalL2 l = some m → us.length = l.length → (∀ (i : Nat) p u, l[i]? = some p → us[i]? = some u → RRel w mu p u) → us = m
  | [], m, us, h, hl, _ => by
    cases h
    exact List.eq_nil_of_length_eq_zero hl
  | p :: l, m, us, h, hl, hr => by
    unfold scalL2 at h
    split at h
    · rename_i v m' h1 h2
      cases h
      match us, hl with
      | u :: us, hl =>
        have e1 := scal2_eq h1 (hr 0 p u rfl rfl)
        have e2 := scalL2_eq (us := us) h2 (by simpa using hl) (fun i p u a b => hr (i + 1) p u (by simpa using a) (by simpa using b))
        rw [e1, e2]
    · cases h
theorem scal_eq {p : PV} {v u : Value} (h : scal p = some v) (hr : ResR w mu p u) : u = v := by
  rcases tup_or p with ⟨l, rfl⟩ | hn
  · obtain ⟨us, rfl, hl, hv⟩ := hr
    simp only [scal, Option.map_eq_some_iff] at h
    obtain ⟨m, hm, e⟩ := h
    rw [← e, scalL2_eq hm hl hv]
  · have h' : scal2 p = some v := by cases p <;> first | exact h | exact absurd rfl (hn _)
    exact scal2_eq h' ((ResR_iff hn).1 hr)
end

theorem V3_of_scal1 {g : G} {p : PV} {v : Value} (h : scal1 p = some v) : RRel g.w g.mu p v := by
  cases p <;> simp [scal1] at h <;> (subst h; first | exact .int _ _ | exact .bool _ | exact .str _ | exact .nils)
theorem RRel_of_scalL {g : G} : ∀ {l : List PV} {m : List Value}, scalL l = some m → m.length = l.length ∧ ∀ (i : Nat) p v, l[i]? = some p → m[i]? = some v → RRel g.w g.mu p v
  | [], m, h => by cases h; exact ⟨rfl, fun i p v h => by simp at h⟩
  | p :: l, m, h => by
    unfold scalL at h
    split at h
    · rename_i v m' h1 h2
      cases h
      obtain ⟨h3, h4⟩ := RRel_of_scalL (g := g) h2
      refine ⟨by simp [h3], fun i p' v' a b => ?_⟩
      cases i with
      | zero => simp at a b; subst a; subst b; exact V3_of_scal1 h1
      | succ i => exact h4 i p' v' (by simpa using a) (by simpa using b)
    · cases h
theorem RRel_of_scal2 {g : G} {p : PV} {v : Value} (h : scal2 p = some v) : RRel g.w g.mu p v := by
  by_cases hn : ∃ l, p = .agg l
  · obtain ⟨l, rfl⟩ := hn
    simp only [scal2, Option.map_eq_some_iff] at h
    obtain ⟨m, hm, e⟩ := h
    obtain ⟨h1, h2⟩ := RRel_of_scalL (g := g) hm
    rw [← e]
    exact .agg l m h1 h2
  · have hn : ∀ l, p ≠ .agg l := fun l e => hn ⟨l, e⟩
    have h2 : scal1 p = some v := by cases p <;> first | exact h | exact absurd rfl (hn _)
    exact V3_of_scal1 h2
theorem RRel_of_scalL2 {g : G} : ∀ {l : List PV} {m : List Value}, scalL2 l = some m → m.length = l.length ∧ ∀ (i : Nat) p v, l[i]? = some p → m[i]? = some v → RRel g.w g.mu p v
  | [], m, h => by cases h; exact ⟨rfl, fun i p v h => by simp at h⟩
  | p :: l, m, h => by
    unfold scalL2 at h
    split at h
    · rename_i v m' h1 h2
      cases h
      obtain ⟨h3, h4⟩ := RRel_of_scalL2 (g := g) h2
      refine ⟨by simp [h3], fun i p' v' a b => ?_⟩
      cases i with
      | zero => simp at a b; subst a; subst b; exact RRel_of_scal2 h1
      | succ i => exact h4 i p' v' (by simpa using a) (by simpa using b)
    · cases h
theorem V3_of_scal {g : G} {p : PV} {v : Value} (h : scal p = some v) : V3 g p v := by
  refine V3_of_Res ?_
  by_cases hn : ∃ l, p = .tup l
  · obtain ⟨l, rfl⟩ := hn
    simp only [scal, Option.map_eq_some_iff] at h
    obtain ⟨m, hm, e⟩ := h
    obtain ⟨h1, h2⟩ := RRel_of_scalL2 (g := g) hm
    exact ⟨m, e.symm, h1, h2⟩
  · have hn : ∀ l, p ≠ .tup l := fun l e => hn ⟨l, e⟩
    have h2 : scal2 p = some v := by cases p <;> first | exact h | exact absurd rfl (hn _)
    have h3 := RRel_of_scal2 (g := g) h2
    cases p <;> first | exact h3 | exact absurd rfl (hn _)

/-! ### a call of a function whose contract is known -/
theorem callOf_sound (hR : Rel c s g a) {o : Oper} {f : Nat} {args : List PV} {ob : Prop} (h : callOf s o.op = some (f, args, ob)) (hob : ob) :
    ∃ vs : List Value, ArgsR g.w g.mu args vs ∧ ∀ (_ : ∀ (us : Array Value) (w : World), (callFunc f us).run P w = .ok (.enter f us) w) (w : World), (execOp a.eval o).run P w = .ok (.enter f vs.toArray) w := by
  unfold callOf at h
  split at h
  · rename_i cl ho
    split at h
    · rename_i f' m o' l p hc he
      cases h
      unfold calleeOf at hc
      split at hc
      · rename_i x hx
        split at hc
        · rename_i f'' l' o'' hv
          cases hc
          have hval := evp_sound hR hv hob.1
          have hval : RRel g.w g.mu (.clo f m) (a.eval x) := hval
          obtain ⟨h1, h2⟩ := evArgs_sound hR he hob.2
          generalize hq : a.eval x = q at hval
          cases hval with
          | clo _ _ us hl hu =>
            refine ⟨cl.args.toList.map a.eval ++ us, ⟨by simp [hl] at h1 ⊢; omega, fun i p v h3 h4 => ?_⟩, fun henter w => ?_⟩
            · by_cases hi : i < l.length
              · rw [List.getElem?_append_left hi] at h3
                rw [List.getElem?_append_left (by omega)] at h4
                exact h2 i p v h3 h4
              · rw [List.getElem?_append_right (by omega)] at h3
                rw [List.getElem?_append_right (by omega), h1] at h4
                exact hu _ p v h3 h4
            · have hx2 : (cl.args.map a.eval) = (cl.args.toList.map a.eval).toArray := by rw [← List.map_toArray, Array.toArray_toList]
              simp [execOp, ho, resolve, hx, hq, Deferred.ofValue, invoke, henter, hx2]
        · cases hc
      · cases hc
    · cases h
  · cases h

/-- .. whose result is a number or the like: what was handed over is the caller's again. -/
theorem TL_callS {ops : Array Oper} {o : Oper} {rest : List Oper} {K : S → Prop} (hw : ∀ g a, Rel c s g a → Region.wanted o (yielded ops a.tmps) = true) {f : Nat} {args : List PV} {ob : Prop} {res : PV} {ids : List Nat}
    (h : callOf (s.fzn ids) o.op = some (f, args, ob)) (hob : ob) (hd : dstOk s o.dst = true) (hm : Meets P f args res) (hs : (scal res).isSome = true) (k : TL P c ops rest (s.put o.dst res) K) : TL P c ops (o :: rest) s K := by
  intro g a Q hR hQ
  unfold wpList
  rw [if_pos (hw g a hR)]
  refine .inl ?_
  obtain ⟨v0, hv0⟩ := Option.isSome_iff_exists.1 hs
  obtain ⟨g1, hs1, hw1, hR1⟩ := hR.fzn ids
  obtain ⟨vs, hA, hrun⟩ := callOf_sound (P := P) hR1 h hob
  unfold Oper.wp
  rw [hrun hm.enter]
  rw [hw1] at hA
  refine (hm.calls g.w g1.mu _ (by rw [← hw1]; exact hR1.lim) hA).mono fun e w' ⟨v, he', hv, hb⟩ => ?_
  subst he'
  rw [scal_eq hv0 hv]
  exact k { g with w := w' } _ Q ((hR.ext hb).put1 hd (V3_of_scal hv0)) hQ

theorem TL_call {ops : Array Oper} {o : Oper} {rest : List Oper} {K : S → Prop} (hw : ∀ g a, Rel c s g a → Region.wanted o (yielded ops a.tmps) = true) {f : Nat} {args : List PV} {ob : Prop} {res : PV} {ids : List Nat}
    (h : callOf (s.fzn ids) o.op = some (f, args, ob)) (hob : ob) (hd : dstOk s o.dst = true) (hm : Meets P f args res) (k : TL P c ops rest ((s.fzn ids).put o.dst res) K) : TL P c ops (o :: rest) s K := by
  intro g a Q hR hQ
  unfold wpList
  rw [if_pos (hw g a hR)]
  refine .inl ?_
  obtain ⟨g1, hs1, hw1, hR1⟩ := hR.fzn ids
  obtain ⟨vs, hA, hrun⟩ := callOf_sound (P := P) hR1 h hob
  unfold Oper.wp
  rw [hrun hm.enter, ← hw1]
  refine (hm.calls g1.w g1.mu _ hR1.lim hA).mono fun e w' ⟨v, he', hv, hb⟩ => ?_
  subst he'
  exact k { g1 with w := w' } _ Q ((hR1.ext hb).put1 (by unfold dstOk at hd ⊢; rw [fzn_n]; exact hd) (V3_of_Res hv)) hQ

/-! ### A region that draws its order, and only reads (calls that hand back numbers and the like, too) -/
structure POK (P : Program) (E : TE) : Prop where
  te : TEOK P E
  mixed : P.follows .mixedOrders = true

def qstep (E : TE) (ops : Array Oper) (s : S) (o : Oper) : Option (S × Prop) :=
  match pop E s o.op with
  | some (pv, ob) =>
    if dstOk s o.dst = true then
      match o.guard with
      | none => some (s.put o.dst pv, ob)
      | some (j, want) => match gw s ops j want with
        | some q => some (s.put o.dst (.opt q pv), q = true → ob)
        | none => none
    else none
  | none => none

/-- May an operation be carried out? -/
def gq (s : S) (ops : Array Oper) (o : Oper) : Option Bool :=
  match o.guard with
  | none => some true
  | some (j, want) => gw s ops j want
theorem gq_sound (hR : Rel c s g a) {ops : Array Oper} {o : Oper} {q : Bool} (h : gq s ops o = some q) : Region.wanted o (yielded ops a.tmps) = q := by
  unfold gq at h
  split at h
  · rename_i hg; cases h; unfold Region.wanted; rw [hg]
  · rename_i j want hg; exact gw_sound hR hg h

def WQ (P : Program) (E : TE) (ops : Array Oper) : List Oper → S → (S → Prop) → Prop
  | [], s, K => K s
  | o :: r, s, K =>
    (∃ s' ob, qstep E ops s o = some (s', ob) ∧ ob ∧ WQ P E ops r s' K) ∨
    (∃ f args ob res, gq s ops o = some true ∧ callOf (s.fzn (callRids s o.op)) o.op = some (f, args, ob) ∧ ob ∧ dstOk s o.dst = true ∧ Meets P f args res ∧ (scal res).isSome = true ∧ WQ P E ops r (s.put o.dst res) K) ∨
    (gq s ops o = some false ∧ dstOk s o.dst = true ∧ WQ P E ops r (s.put o.dst (.opt false (.bool false))) K)

theorem WQ_mono {ops : Array Oper} {K K' : S → Prop} : ∀ {l : List Oper} {s : S}, WQ P E ops l s K → (∀ s', K s' → K' s') → WQ P E ops l s K'
  | [], s, h, k => k s h
  | o :: r, s, h, k => by
    unfold WQ at h ⊢
    rcases h with ⟨s', ob, h1, h2, h3⟩ | ⟨f, args, ob, res, h0, h1, h2, h3, h4, h5, h6⟩ | ⟨h1, h2, h3⟩
    · exact .inl ⟨s', ob, h1, h2, WQ_mono h3 k⟩
    · exact .inr (.inl ⟨f, args, ob, res, h0, h1, h2, h3, h4, h5, WQ_mono h6 k⟩)
    · exact .inr (.inr ⟨h1, h2, WQ_mono h3 k⟩)

theorem below_trans {w w' w'' : World} (h1 : Below w.heap.size w w') (h2 : Below w'.heap.size w' w'') : Below w.heap.size w w'' :=
  ⟨h2.os.trans h1.os, h2.tape.trans h1.tape, h2.output.trans h1.output, Nat.le_trans h1.size h2.size, fun k hk => (h2.block k (Nat.lt_of_lt_of_le hk h1.size)).trans (h1.block k hk)⟩

theorem WQ_sound (hE : TEOK P E) {ops : Array Oper} {K : S → Prop} {Q : Act → Prop} : ∀ {l : List Oper} {s : S} {a : Act}, WQ P E ops l s K → Rel c s g a → (∀ s' a', K s' → Rel c s' g a' → Q a') →
    wpQuiet P ops (fun w' => Below g.w.heap.size g.w w') Q l a
  | [], s, a, h, hR, hQ => hQ s a h hR
  | o :: r, s, a, h, hR, hQ => by
    have pure : ∀ {pv ob}, pop E s o.op = some (pv, ob) → ob → ∃ v, (∀ w', Below g.w.heap.size g.w w' → o.quietAt P a (fun w' => Below g.w.heap.size g.w w') w' v) ∧ V3 g pv v := by
      intro pv ob hp hob
      obtain ⟨v, h1, h2⟩ := pop_sound hE hR hp hob
      refine ⟨v, fun w' hw' => ?_, h2⟩
      unfold Oper.quietAt
      rw [h1 w' (Ex.of (ext_of_below hw'))]
      exact ⟨rfl, rfl⟩
    unfold WQ at h
    unfold wpQuiet
    rcases h with ⟨s', ob, hs, hob, hk⟩ | ⟨f, args, ob, res, hg, hc, hob, hd, hm, hsc, hk⟩ | ⟨hg, hd, hk⟩
    · unfold qstep at hs
      split at hs
      · rename_i pv ob' hp
        split at hs
        · rename_i hd
          split at hs
          · rename_i hg
            cases hs
            rw [if_pos (by unfold Region.wanted; rw [hg])]
            obtain ⟨v, h1, h2⟩ := pure hp hob
            exact ⟨v, h1, WQ_sound hE hk (hR.put1 hd h2) hQ⟩
          · rename_i j want hg
            split at hs
            · rename_i q hq
              cases hs
              have hw := gw_sound hR hg hq
              cases q with
              | true =>
                rw [if_pos hw]
                obtain ⟨v, h1, h2⟩ := pure hp (hob rfl)
                exact ⟨v, h1, WQ_sound hE hk (hR.put _ (fun i hi => by rw [hi] at hd; simpa [dstOk] using hd) (show (if true = true then V3 g pv v else v = undef) from h2)) hQ⟩
              | false =>
                rw [if_neg (by rw [hw]; decide)]
                exact WQ_sound hE hk (hR.put _ (fun i hi => by rw [hi] at hd; simpa [dstOk] using hd) (show (if false = true then V3 g pv undef else undef = undef) from rfl)) hQ
            · cases hs
        · cases hs
      · cases hs
    · obtain ⟨v, hv⟩ := Option.isSome_iff_exists.1 hsc
      rw [if_pos (gq_sound hR hg)]
      refine ⟨v, fun w' hw' => ?_, WQ_sound hE hk (hR.put1 hd (V3_of_scal hv)) hQ⟩
      obtain ⟨g1, hs1, hw1, hR1⟩ := (hR.ext hw').fzn (callRids s o.op)
      have hw1 : g1.w = w' := hw1
      obtain ⟨vs, hA, hrun⟩ := callOf_sound (P := P) hR1 hc hob
      unfold Oper.quietAt
      rw [hrun hm.enter]
      rw [hw1] at hA
      refine ⟨rfl, (hm.calls w' g1.mu _ (by rw [← hw1]; exact hR1.lim) hA).mono fun e w'' ⟨u, he', hu, hb⟩ => ?_⟩
      subst he'
      exact ⟨by rw [scal_eq hv hu], below_trans hw' hb⟩
    · rw [if_neg (by rw [gq_sound hR hg]; decide)]
      exact WQ_sound hE hk (hR.put _ (fun i hi => by rw [hi] at hd; simpa [dstOk] using hd) (show (if false = true then V3 g (.bool false) undef else undef = undef) from rfl)) hQ

theorem T_quiet (hE : POK P E) {id : Nat} {ops : Array Oper} {Q : Exit → S → Prop} (hB : Region.lexB .any ops = true) (h : WQ P E ops ops.toList s (fun s' => Q .normal s')) : T P c (.region id ops true) s Q := by
  intro g a hR
  have hR' := hR.drew 1
  refine wp_region_quiet (C := fun w' => Below (g.w.drewN 1).heap.size (g.w.drewN 1) w') hE.mixed hB (Below.refl _ _) ?_
  refine WQ_sound (c := c) (g := { g with w := g.w.drewN 1 }) hE.te h hR' fun s' a' hK hRs w' hw' => ?_
  exact ⟨s', { g with w := w' }, hK, rfl, hRs.ext hw'⟩

/-! ### A body's code, evaluated by simp: what stands behind is data, so that simp does not walk into it -/
inductive Fr where
  | seq (x : Code)
  | block (id : Nat)
  | back (B : S → Prop)

def backQ (B : S → Prop) (Q : Exit → S → Prop) : Exit → S → Prop
  | .normal, s => B s
  | x, s => Q x s

/-- What the frames ask. -/
def QF (P : Program) (c : Ctx) (Q : Exit → S → Prop) : List Fr → Exit → S → Prop
  | [] => Q
  | .seq y :: k => seqQ (fun s' => T P c y s' (QF P c Q k)) (QF P c Q k)
  | .block id :: k => blockQ id (QF P c Q k)
  | .back B :: k => backQ B (QF P c Q k)

def WN (Q : Exit → S → Prop) (w : Code → S → List Fr → Prop) (s : S) : List Fr → Prop
  | [] => Q .normal s
  | .seq y :: k => w y s k
  | .block _ :: k => WN Q w s k
  | .back B :: _ => B s
def WX (Q : Exit → S → Prop) (w : Code → S → List Fr → Prop) (id : Nat) (s : S) : List Fr → Prop
  | [] => Q (.exit id) s
  | .seq _ :: k => WX Q w id s k
  | .block i :: k => if id = i then WN Q w s k else WX Q w id s k
  | .back _ :: k => WX Q w id s k
def WR (Q : Exit → S → Prop) (s : S) : List Fr → Prop
  | [] => Q .ret s
  | _ :: k => WR Q s k

/-- A test for nil: which slice, and is it '!='? -/
def nilTest (E : TE) (s : S) : Op → Option (List PV × Bool × Prop)
  | .binOp op T x y _ =>
    match op with
    | .eql | .neq =>
      if ((lk T E).bind (·.elem)).isSome = false then none else
      match evp s x, evp s y with
      | some (.sl xs, o1), some (.nils, o2) => some (xs, op == .neq, o1 ∧ o2)
      | some (.row e, o1), some (.nils, o2) => match lk e s.r with
        | some r => some (r.xs, op == .neq, o1 ∧ o2)
        | none => none
      | _, _ => none
    | _ => none
  | _ => none

/-- A call that waits for its contract. -/
def WC (P : Program) (c : Ctx) (Q : Exit → S → Prop) (ops : Array Oper) (o : Oper) (r : List Oper) (s : S) (k : List Fr) (f : Nat) (args : List PV) : Prop :=
  ∀ ob, callOf (s.fzn (callRids s o.op)) o.op = some (f, args, ob) → ob → dstOk s o.dst = true → (∀ g a, Rel c s g a → Region.wanted o (yielded ops a.tmps) = true) → TL P c ops (o :: r) s (fun s' => QF P c Q k .normal s')
/-- An operation that no rule above is about. -/
def WO (P : Program) (c : Ctx) (Q : Exit → S → Prop) (ops : Array Oper) (o : Oper) (r : List Oper) (s : S) (k : List Fr) : Prop :=
  (∀ g a, Rel c s g a → Region.wanted o (yielded ops a.tmps) = true) → TL P c ops (o :: r) s (fun s' => QF P c Q k .normal s')
/-- .. in a region that draws its order. -/
def WQC (P : Program) (E : TE) (Q : Exit → S → Prop) (w : Code → S → List Fr → Prop) (ops : Array Oper) (o : Oper) (r : List Oper) (s : S) (k : List Fr) (f : Nat) (args : List PV) : Prop :=
  ∀ ob, callOf (s.fzn (callRids s o.op)) o.op = some (f, args, ob) → ob → dstOk s o.dst = true → gq s ops o = some true → WQ P E ops (o :: r) s (fun s' => WN Q w s' k)

def WL (P : Program) (E : TE) (c : Ctx) (Q : Exit → S → Prop) (w : Code → S → List Fr → Prop) (ops : Array Oper) : List Oper → S → List Fr → Prop
  | [], s, k => WN Q w s k
  | o :: r, s, k =>
    match step E ops s o with
    | some (s', ob) => ob ∧ WL P E c Q w ops r s' k
    | none =>
      match gq s ops o with
      | some q =>
        (q = false → dstOk s o.dst = true ∧ WL P E c Q w ops r (s.put o.dst (.opt false (.bool false))) k) ∧
        (q = true →
          match stepU E s o.dst o.op with
          | some (s', ob) => ob ∧ WL P E c Q w ops r s' k
          | none =>
            match callOf (s.fzn (callRids s o.op)) o.op with
            | some (f, args, ob) => ob ∧ dstOk s o.dst = true ∧ WC P c Q ops o r s k f args
            | none =>
              match nilTest E s o.op with
              | some (xs, neg, ob) => ob ∧ dstOk s o.dst = true ∧ ∀ b : Bool, (b = true → xs = []) → WL P E c Q w ops r (s.put o.dst (.bool (b != neg))) k
              | none => WO P c Q ops o r s k)
      | none => TL P c ops (o :: r) s (fun s' => QF P c Q k .normal s')

def WQk (P : Program) (E : TE) (Q : Exit → S → Prop) (w : Code → S → List Fr → Prop) (ops : Array Oper) : List Oper → S → List Fr → Prop
  | [], s, k => WN Q w s k
  | o :: r, s, k =>
    match qstep E ops s o with
    | some (s', ob) => ob ∧ WQk P E Q w ops r s' k
    | none =>
      match gq s ops o, callOf (s.fzn (callRids s o.op)) o.op with
      | some q, some (f, args, ob) =>
        (q = true → ob ∧ dstOk s o.dst = true ∧ WQC P E Q w ops o r s k f args) ∧ (q = false → dstOk s o.dst = true ∧ WQk P E Q w ops r (s.put o.dst (.opt false (.bool false))) k)
      | _, _ => False

theorem WQk_sound {Q : Exit → S → Prop} {w : Code → S → List Fr → Prop} {ops : Array Oper} {k : List Fr} : ∀ {l : List Oper} {s : S}, WQk P E Q w ops l s k → WQ P E ops l s (fun s' => WN Q w s' k)
  | [], s, h => h
  | o :: r, s, h => by
    unfold WQk at h
    split at h
    · rename_i s' ob hs
      exact .inl ⟨s', ob, hs, h.1, WQk_sound h.2⟩
    · split at h
      · rename_i q f args ob hg hc
        cases q with
        | true =>
          obtain ⟨h1, h2, h3⟩ := h.1 rfl
          exact h3 ob hc h1 h2 hg
        | false =>
          obtain ⟨h1, h2⟩ := h.2 rfl
          exact .inr (.inr ⟨hg, h1, WQk_sound h2⟩)
      · exact h.elim

theorem WQC_meets {Q : Exit → S → Prop} {w : Code → S → List Fr → Prop} {ops : Array Oper} {o : Oper} {r : List Oper} {k : List Fr} {f : Nat} {args : List PV} {res : PV} (hm : Meets P f args res) (hs : (scal res).isSome = true)
    (h : WQk P E Q w ops r (s.put o.dst res) k) : WQC P E Q w ops o r s k f args :=
  fun ob h1 h2 h3 h4 => .inr (.inl ⟨f, args, ob, res, h4, h1, h2, h3, hm, hs, WQk_sound h⟩)

/-- Does a region only read? -/
def quietOp : Op → Bool
  | .alloc _ | .box _ _ | .buildSlice _ _ _ | .store _ _ _ | .insert _ _ _ _ | .makeFunc _ _ _ | .makeMap _ _ | .makeChan _ _ | .makeSlice _ _ _ | .mapUpdate _ _ _ _ | .range _ _ | .next _ _ => false
  | .call cl => match cl.callee with
    | .value (.func _) => true
    | .builtin .len => true
    | _ => false
  | _ => true
def quietB (ops : Array Oper) : Bool := ops.toList.all fun o => quietOp o.op

def W (P : Program) (E : TE) (c : Ctx) (Q : Exit → S → Prop) : Nat → Code → S → List Fr → Prop
  | n + 1, .skip, s, k => WN Q (W P E c Q n) s k
  | n + 1, .exit id, s, k => WX Q (W P E c Q n) id s k
  | _ + 1, .ret, s, k => WR Q s k
  | n + 1, .region id ops b, s, k =>
    if b = false then WL P E c Q (W P E c Q n) ops ops.toList s k
    else if quietB ops = true then Region.lexB .any ops = true ∧ WQk P E Q (W P E c Q n) ops ops.toList s k else T P c (.region id ops b) s (QF P c Q k)
  | n + 1, .seq x y, s, k => W P E c Q n x s (.seq y :: k)
  | n + 1, .cond x t e, s, k =>
    match evp s x with
    | some (.bool b, ob) => ob ∧ (b = true → W P E c Q n t s k) ∧ (b = false → W P E c Q n e s k)
    | _ => T P c (.cond x t e) s (QF P c Q k)
  | n + 1, .block id x, s, k => W P E c Q n x s (.block id :: k)
  | _, x, s, k => T P c x s (QF P c Q k)

section
variable {Q : Exit → S → Prop} {w : Code → S → List Fr → Prop}
theorem WN_sound (hw : ∀ {y s k}, w y s k → T P c y s (QF P c Q k)) {s : S} : ∀ {k : List Fr}, WN Q w s k → QF P c Q k .normal s
  | [], h => h
  | .seq y :: k, h => hw h
  | .block _ :: k, h => WN_sound hw (k := k) h
  | .back _ :: k, h => h
theorem WX_sound (hw : ∀ {y s k}, w y s k → T P c y s (QF P c Q k)) {id : Nat} {s : S} : ∀ {k : List Fr}, WX Q w id s k → QF P c Q k (.exit id) s
  | [], h => h
  | .seq y :: k, h => WX_sound hw (k := k) h
  | .block i :: k, h => by
    show (if id = i then _ else _)
    have h : (if id = i then WN Q w s k else WX Q w id s k) := h
    split
    · rename_i e; rw [if_pos e] at h; exact WN_sound hw h
    · rename_i e; rw [if_neg e] at h; exact WX_sound hw h
  | .back _ :: k, h => WX_sound hw (k := k) h
theorem WR_sound {s : S} : ∀ {k : List Fr}, WR Q s k → QF P c Q k .ret s
  | [], h => h
  | .seq y :: k, h => WR_sound (k := k) h
  | .block i :: k, h => WR_sound (k := k) h
  | .back _ :: k, h => WR_sound (k := k) h

theorem TL_skipped {ops : Array Oper} {o : Oper} {r : List Oper} {K : S → Prop} (hg : gq s ops o = some false) (hd : dstOk s o.dst = true) (h : TL P c ops r (s.put o.dst (.opt false (.bool false))) K) : TL P c ops (o :: r) s K := by
  intro g a Q hR hQ
  unfold wpList
  rw [if_neg (by rw [gq_sound hR hg]; decide)]
  exact h g _ Q (hR.put _ (fun i hi => by rw [hi] at hd; simpa [dstOk] using hd) (show (if false = true then V3 g (.bool false) undef else undef = undef) from rfl)) hQ

theorem nil_run {op : BinOp} (hop : op = .eql ∨ op = .neq) {A : Option Addr} {n cp : Nat} {T T2 : TypeId} {x y : Operand} {o : Oper} {e : TypeId} (hu : P.underlying T = some (.slice e)) (ho : o.op = .binOp op T x y T2) (hx : a.eval x = .slice A n cp) (hy : a.eval y = .slice none 0 0) (w : World) :
    (execOp a.eval o).run P w = .ok (.value (.bool (A.isNone != (op == .neq)))) w := by
  rcases hop with rfl | rfl
  · have : (BinOp.eql == BinOp.neq) = false := rfl
    simp [execOp, ho, hx, hy, eqGuard, binOp, run_equal_slice_nil w T e A n cp hu, this]
  · have : (BinOp.neq == BinOp.neq) = true := rfl
    simp [execOp, ho, hx, hy, eqGuard, binOp, run_equal_slice_nil w T e A n cp hu, this]

theorem TL_nil_test (hE : TEOK P E) {ops : Array Oper} {o : Oper} {r : List Oper} {K : S → Prop} {xs : List PV} {neg : Bool} {ob : Prop} (hg : gq s ops o = some true) (h : nilTest E s o.op = some (xs, neg, ob)) (hob : ob) (hd : dstOk s o.dst = true)
    (k : ∀ b : Bool, (b = true → xs = []) → TL P c ops r (s.put o.dst (.bool (b != neg))) K) : TL P c ops (o :: r) s K := by
  intro g a Q hR hQ
  unfold wpList
  rw [if_pos (gq_sound hR hg)]
  refine .inl ?_
  have go : ∀ {op : BinOp} (hop : op = .eql ∨ op = .neq) {T T2 x y}, o.op = .binOp op T x y T2 → ¬ ((lk T E).bind (·.elem)).isSome = false → ∀ {A : Option Addr} {n cp : Nat}, a.eval x = .slice A n cp → a.eval y = .slice none 0 0 → (A = none → xs = []) → neg = (op == .neq) → o.wp P a g.w (wpList P ops Q r) Q := by
    intro op hop T T2 x y ho hel A n cp hx hy hA hneg
    subst hneg
    obtain ⟨p, hp⟩ := Option.isSome_iff_exists.1 (Bool.of_not_eq_false hel)
    rw [Option.bind_eq_some_iff] at hp
    obtain ⟨ti, ht, hp⟩ := hp
    unfold Oper.wp
    rw [nil_run hop ((hE _ _ ht).elem p.1 p.2 hp).1 ho hx hy]
    refine k A.isNone (fun h => hA (by simpa using h)) g _ Q (hR.put1 hd ?_) hQ
    exact RRel.bool _
  unfold nilTest at h
  split at h
  · rename_i op T x y T2 ho
    have inner : ∀ (hop : op = .eql ∨ op = .neq), (if ((lk T E).bind (·.elem)).isSome = false then none else match evp s x, evp s y with
      | some (.sl xs, o1), some (.nils, o2) => some (xs, op == .neq, o1 ∧ o2)
      | some (.row e, o1), some (.nils, o2) => match lk e s.r with
        | some r => some (r.xs, op == .neq, o1 ∧ o2)
        | none => none
      | _, _ => none) = some (xs, neg, ob) → o.wp P a g.w (wpList P ops Q r) Q := by
      intro hop h
      split at h
      · cases h
      · rename_i hel
        split at h
        · rename_i ys o1 o2 hx hy
          cases h
          obtain ⟨A, cc, _, _, e1, _, _, _, hA, _⟩ := inv_sl (evp_sound hR hx hob.1)
          have e2 := inv_nils (evp_sound hR hy hob.2)
          refine go hop ho hel e1 e2 (fun hn => ?_) rfl
          refine Classical.byContradiction fun hne => ?_
          obtain ⟨ad, h1, _⟩ := hA hne
          rw [hn] at h1; cases h1
        · rename_i e o1 o2 hx hy
          split at h
          · rename_i rw' hr
            cases h
            have e1 : a.eval x = g.ρ e := evp_sound hR hx hob.1
            have e2 := inv_nils (evp_sound hR hy hob.2)
            obtain ⟨cs, hown, _⟩ := hR.rows e rw' hr
            rcases hown.2 with ⟨h0, h1⟩ | ⟨gg, cap, cur, hval, _⟩
            · exact go hop ho hel (e1.trans h0) e2 (fun _ => List.eq_nil_of_length_eq_zero h1) rfl
            · exact go hop ho hel (e1.trans hval) e2 (fun hn => by cases hn) rfl
          · cases h
        · cases h
    split at h
    · exact inner (.inl rfl) h
    · exact inner (.inr rfl) h
    · cases h
  · cases h

theorem WL_sound (hE : TEOK P E) (hw : ∀ {y s k}, w y s k → T P c y s (QF P c Q k)) {ops : Array Oper} {k : List Fr} : ∀ {l : List Oper} {s : S}, WL P E c Q w ops l s k → TL P c ops l s (fun s' => QF P c Q k .normal s')
  | [], s, h => TL_nil (WN_sound hw h)
  | o :: r, s, h => by
    unfold WL at h
    split at h
    · rename_i s' ob hs
      exact TL_step hE hs h.1 (WL_sound hE hw h.2)
    · split at h
      · rename_i q hg
        cases q with
        | false =>
          obtain ⟨h1, h2⟩ := h.1 rfl
          exact TL_skipped hg h1 (WL_sound hE hw h2)
        | true =>
          have h := h.2 rfl
          have hwt : ∀ g a, Rel c s g a → Region.wanted o (yielded ops a.tmps) = true := fun g a hR => gq_sound hR hg
          split at h
          · rename_i s' ob hs
            exact TL_stepU hE hwt hs h.1 (WL_sound hE hw h.2)
          · split at h
            · rename_i f args ob hc
              exact h.2.2 ob hc h.1 h.2.1 hwt
            · split at h
              · rename_i xs neg ob hn
                obtain ⟨h1, h2, h3⟩ := h
                exact TL_nil_test hE hg hn h1 h2 fun b hb => WL_sound hE hw (h3 b hb)
              · exact h hwt
      · exact h

theorem W_sound (hE : POK P E) : ∀ (n : Nat) {code : Code} {s : S} {k : List Fr}, W P E c Q n code s k → T P c code s (QF P c Q k)
  | 0, code, s, k, h => by unfold W at h; exact h
  | n + 1, .skip, s, k, h => T_skip (WN_sound (fun h => W_sound hE n h) h)
  | n + 1, .exit id, s, k, h => T_exit (WX_sound (fun h => W_sound hE n h) h)
  | n + 1, .ret, s, k, h => T_ret (WR_sound h)
  | n + 1, .region id ops true, s, k, h => by
    unfold W at h
    rw [if_neg (by decide)] at h
    split at h
    · exact T_quiet hE h.1 (WQ_mono (WQk_sound h.2) fun s' h' => WN_sound (fun h => W_sound hE n h) h')
    · exact h
  | n + 1, .region id ops false, s, k, h => by
    unfold W at h
    rw [if_pos rfl] at h
    have := T_region (id := id) (l := ops.toList) (Q := QF P c Q k) (by simpa using WL_sound hE.te (fun h => W_sound hE n h) h)
    simpa using this
  | n + 1, .seq x y, s, k, h => by
    have h : W P E c Q n x s (.seq y :: k) := h
    exact T_seq (W_sound hE n h)
  | n + 1, .cond x t e, s, k, h => by
    unfold W at h
    split at h
    · rename_i b ob hx
      exact T_cond hx h.1 (fun hb => W_sound hE n (h.2.1 hb)) (fun hb => W_sound hE n (h.2.2 hb))
    · exact h
  | n + 1, .block id x, s, k, h => by
    have h : W P E c Q n x s (.block id :: k) := h
    exact T_block (W_sound hE n h)
  | n + 1, .loop x, s, k, h => h
  | n + 1, .rangeFunc _ _ _ _, s, k, h => h
  | n + 1, .scope x, s, k, h => h
  | n + 1, .label _, s, k, h => h
  | n + 1, .goto _, s, k, h => h
  | n + 1, .refuse _, s, k, h => h

/-- A call, by its contract. -/
theorem WC_meets (hE : POK P E) {ops : Array Oper} {o : Oper} {r : List Oper} {k : List Fr} {f : Nat} {args : List PV} {res : PV} (hm : Meets P f args res)
    (h : WL P E c Q (W P E c Q 1000) ops r ((if (scal res).isSome = true then s else s.fzn (callRids s o.op)).put o.dst res) k) : WC P c Q ops o r s k f args := by
  intro ob h1 h2 h3 h4
  split at h
  · rename_i hs
    exact TL_callS h4 h1 h2 h3 hm hs (WL_sound hE.te (fun h => W_sound hE 1000 h) h)
  · exact TL_call h4 h1 h2 h3 hm (WL_sound hE.te (fun h => W_sound hE 1000 h) h)

/-- Whatever lies in memory is no longer than memory is. -/
structure Lens (s : S) : Prop where
  t : ∀ t xs, lk t s.t = some (.sl xs) → xs.length ≤ 9223372036854775807
  ta : ∀ t l (j : Nat) xs, lk t s.t = some (.agg l) → l[j]? = some (.sl xs) → xs.length ≤ 9223372036854775807
  b : ∀ i x (j : Nat) xs, lk i s.b = some x → x.l[j]? = some (.sl xs) → xs.length ≤ 9223372036854775807
  r : ∀ e x, lk e s.r = some x → x.xs.length ≤ 9223372036854775807
theorem len_RRel {w : World} {mu : Addr → Prop} {xs : List PV} {v : Value} (h : RRel w mu (.sl xs) v) : xs.length ≤ 9223372036854775807 := by
  cases h with
  | sl _ A cc sz u hc hm hsz hA h' => exact Nat.le_trans hc hm
theorem Rel.lens (hR : Rel c s g a) : Lens s where
  t := fun t xs h => by
    have h1 : RRel g.w g.mu (.sl xs) _ := hR.tmps t _ h
    exact len_RRel h1
  ta := fun t l j xs h h2 => by
    obtain ⟨vs, _, hl, hv⟩ : V2 g (.agg l) _ := hR.tmps t _ h
    have hj := (List.getElem?_eq_some_iff.1 h2).1
    have h1 : RRel g.w g.mu (.sl xs) _ := hv j _ _ h2 (List.getElem?_eq_getElem (by omega))
    exact len_RRel h1
  b := fun i x j xs h h2 => by
    obtain ⟨⟨cs, _, hl, hv⟩, _⟩ := hR.boxes i x h
    have hj := (List.getElem?_eq_some_iff.1 h2).1
    have h1 : RRel g.w g.mu (.sl xs) _ := hv j _ _ h2 (List.getElem?_eq_getElem (by omega))
    exact len_RRel h1
  r := fun e x h => by
    obtain ⟨cs, hown, _⟩ := hR.rows e x h
    rcases hown.2 with ⟨_, h1⟩ | ⟨gg, cap, cur, _, _, _, h1, h2, _⟩
    · rw [h1]; exact Nat.zero_le _
    · exact Nat.le_trans h1 h2
theorem T_lens {code : Code} {s : S} {Q : Exit → S → Prop} (h : Lens s → T P c code s Q) : T P c code s Q := fun g a hR => h hR.lens g a hR

theorem W_fun (hE : POK P E) {f : Nat} {fn : Func} {code : Code} {args : List PV} {res : PV} (hf : P.funcs[f]? = some fn) (hb : fn.body = some code) (hnm : (fn.name == "runtime.NumGoroutine") = false) (hn : args.length ≤ fn.ntmps)
    (h : ∀ c, Lens (entry fn.ntmps args) → W P E c (Ends E fn.results.toList res) 1000 code (entry fn.ntmps args) []) : Meets P f args res :=
  Meets_of_T hE.te hf hb hnm hn fun c => T_lens fun hl => W_sound hE 1000 (h c hl)

/-- A loop. -/
theorem W_loop (hE : POK P E) {x : Code} {k : List Fr} {ι : Type} (st : ι → S) (inv : ι → Prop) (μ : ι → Nat) (i0 : ι) (h0 : inv i0) (hs : Sub (st i0) s)
    (h : ∀ i, inv i → Lens (st i) → ∀ B : S → Prop, (∀ j s', inv j → μ j < μ i → Sub (st j) s' → B s') → W P E c Q 1000 x (st i) (.back B :: k)) : T P c (.loop x) s (QF P c Q k) := by
  refine T_loop st inv μ i0 h0 hs fun i hi => T_mono (T_lens fun hl => W_sound hE 1000 (h i hi hl (fun s' => ∃ j, inv j ∧ μ j < μ i ∧ Sub (st j) s') fun j s' h1 h2 h3 => ⟨j, h1, h2, h3⟩)) fun e s' h1 => ?_
  cases e <;> exact h1
end
theorem wrapI {n : Int} (h0 : -9223372036854775808 ≤ n) (h1 : n ≤ 9223372036854775807) : IntKind.i64.wrap n = n := by
  rw [IntKind.wrap_i64]; omega
theorem tl_iff {a b : ByteArray} : a.toList = b.toList ↔ a = b := by
  refine ⟨fun h => ?_, fun h => by rw [h]⟩
  rw [ByteArray.toList_eq, ByteArray.toList_eq] at h
  exact ba_ext h
theorem beq_en : (BinOp.eql == BinOp.neq) = false := rfl
theorem beq_nn : (BinOp.neq == BinOp.neq) = true := rfl
theorem ba_empty : (ByteArray.mk #[]).toList = [] := by unfold ByteArray.toList ByteArray.toList.loop; rfl
attribute [go_sem] beq_en beq_nn ba_empty W WQk qstep gq quietB quietOp scal scal1 scal2 scalL scalL2 WL WN WX WR nilTest step stepU pop evp evb lk constPV gw dstOk S.put freeId n1 n4 all2 all3 all4 map2 map3 map4 mkAt fillL evParts lenPV lenOk evBd intBin intBinO shiftBin boolBin aggBin eqL strBin evArgs calleeOf callOf callRids frz frz1 frzL frzN nz1 putCells dropK cellsOk PV.flat PV.isAgg PV.cells Ends resPV resAll resOne entry entryT
  rids rids1 opRids partRids argRids S.fzn S.fz S.fza fzr Rw.fz putEl appOf bsOf srcPV srcOk frzAll inRow noRow r1 dg1 dgT dgB
end Go.Mh
