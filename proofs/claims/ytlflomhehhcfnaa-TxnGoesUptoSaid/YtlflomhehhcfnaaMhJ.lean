/- Regions, code, functions: the triples and their rules. -/
import Derived.Test.YtlflomhehhcfnaaMhI
namespace Go.Mh
open Go Go.RowKit
variable {P : Program} {E : TE} {c : Ctx} {s : S} {g : G} {a : Act}

/-- Is what an operation's guard asks so? -/
def gw (s : S) (ops : Array Oper) (j : Nat) (want : Bool) : Option Bool :=
  match (ops[j]?).bind (·.dst) with
  | some d => match lk d s.t with
    | some (.bool b) => some (b == want)
    | some (.opt q (.bool b)) => some (q && (b == want))
    | _ => none
  | none => none

theorem gw_sound (hR : Rel c s g a) {ops : Array Oper} {o : Oper} {j : Nat} {want q : Bool} (hg : o.guard = some (j, want)) (h : gw s ops j want = some q) :
    Region.wanted o (yielded ops a.tmps) = q := by
  unfold gw at h
  split at h
  · rename_i d hd
    have hy : ∀ b, a.tmps.getD d undef = .bool b → yielded ops a.tmps j = some b := by
      intro b hb
      unfold yielded
      rw [hd]
      simp only [Option.bind_some]
      have hlt : d < a.tmps.size := by
        rcases Nat.lt_or_ge d a.tmps.size with h1 | h1
        · exact h1
        · simp [Array.getD, Nat.not_lt.2 h1] at hb
          cases hb
      have : a.tmps[d]? = some (.bool b) := by
        rw [Array.getElem?_eq_getElem hlt]
        simpa [Array.getD, hlt] using hb
      rw [this]
    have hn : a.tmps.getD d undef = undef → yielded ops a.tmps j = none := by
      intro hb
      unfold yielded
      rw [hd]
      simp only [Option.bind_some]
      rcases Nat.lt_or_ge d a.tmps.size with h1 | h1
      · have : a.tmps[d]? = some undef := by
          rw [Array.getElem?_eq_getElem h1]
          simpa [Array.getD, h1] using hb
        rw [this]
        rfl
      · rw [Array.getElem?_eq_none h1]
    unfold Region.wanted
    rw [hg]
    simp only
    split at h
    · rename_i b hl
      cases h
      have := inv_bool (V3_of_V4 (fun _ _ e => by cases e) (hR.tmps d _ hl))
      rw [hy b this]
      cases b <;> cases want <;> rfl
    · rename_i q' b hl
      cases h
      have := hR.tmps d _ hl
      have this : (if q' = true then V3 g (.bool b) (a.tmps.getD d undef) else a.tmps.getD d undef = undef) := this
      cases q' with
      | true =>
        rw [if_pos rfl] at this
        rw [hy b (inv_bool this)]
        cases b <;> cases want <;> rfl
      | false =>
        rw [if_neg (by decide)] at this
        rw [hn this]
        rfl
    · cases h
  · cases h

def step (E : TE) (ops : Array Oper) (s : S) (o : Oper) : Option (S × Prop) :=
  match o.guard with
  | none => stepU E s o.dst o.op
  | some (j, want) =>
    match gw s ops j want with
    | none => none
    | some q =>
      match pop E s o.op with
      | some (pv, ob) => if dstOk s o.dst = true then some (s.put o.dst (.opt q pv), q = true → ob) else none
      | none => none

/-- From here on a region's operations go to an end where K holds. -/
def TL (P : Program) (c : Ctx) (ops : Array Oper) (rest : List Oper) (s : S) (K : S → Prop) : Prop :=
  ∀ g a (Q : Exit → Act → World → Prop), Rel c s g a → (∀ s' g' a', K s' → Rel c s' g' a' → Q .normal a' g'.w) → wpList P ops Q rest a g.w

theorem TL_nil {ops : Array Oper} {K : S → Prop} (h : K s) : TL P c ops [] s K := fun g a Q hR hQ => hQ s g a h hR

theorem TL_step (hE : TEOK P E) {ops : Array Oper} {o : Oper} {rest : List Oper} {s' : S} {ob : Prop} {K : S → Prop} (h : step E ops s o = some (s', ob)) (hob : ob) (k : TL P c ops rest s' K) :
    TL P c ops (o :: rest) s K := by
  intro g a Q hR hQ
  -- an operation that is carried out
  have go : ∀ {s'' : S} {ob' : Prop}, stepU E s o.dst o.op = some (s'', ob') → ob' → TL P c ops rest s'' K → o.wp P a g.w (wpList P ops Q rest) Q := by
    intro s'' ob' h1 h2 h3
    obtain ⟨n, w', v, hr, hn, _, g', hw, hR'⟩ := stepU_sound hE hR h1 h2
    have := h3 g' _ Q hR' hQ
    unfold Oper.wp
    rw [hr]
    rw [hw] at this
    rcases hn with rfl | ⟨rfl, rfl⟩ <;> exact this
  unfold step at h
  unfold wpList
  split at h
  · rename_i hg
    rw [if_pos (by unfold Region.wanted; rw [hg])]
    exact .inl (go h hob k)
  · rename_i j want hg
    split at h
    · cases h
    · rename_i q hq
      have hw := gw_sound hR hg hq
      split at h
      · rename_i pv ob' hp
        split at h
        · rename_i hd
          cases h
          cases q with
          | true =>
            rw [if_pos hw]
            refine .inl ?_
            obtain ⟨v, h1, h2⟩ := pop_sound hE hR hp (hob rfl)
            unfold Oper.wp
            rw [h1 _ (Ex.refl _ _)]
            exact k g _ Q (hR.put _ (fun i hi => by rw [hi] at hd; simpa [dstOk] using hd) (show (if true = true then V3 g pv v else v = undef) from h2)) hQ
          | false =>
            rw [if_neg (by rw [hw]; decide)]
            exact k g _ Q (hR.put _ (fun i hi => by rw [hi] at hd; simpa [dstOk] using hd) (show (if false = true then V3 g pv undef else undef = undef) from rfl)) hQ
        · cases h
      · cases h

theorem TL_stepU (hE : TEOK P E) {ops : Array Oper} {o : Oper} {rest : List Oper} {s' : S} {ob : Prop} {K : S → Prop} (hw : ∀ g a, Rel c s g a → Region.wanted o (yielded ops a.tmps) = true) (h : stepU E s o.dst o.op = some (s', ob)) (hob : ob) (k : TL P c ops rest s' K) :
    TL P c ops (o :: rest) s K := by
  intro g a Q hR hQ
  unfold wpList
  rw [if_pos (hw g a hR)]
  refine .inl ?_
  obtain ⟨n, w', v, hr, hn, _, g', hw, hR'⟩ := stepU_sound hE hR h hob
  have := k g' _ Q hR' hQ
  unfold Oper.wp
  rw [hr]
  rw [hw] at this
  rcases hn with rfl | ⟨rfl, rfl⟩ <;> exact this

def run (E : TE) (ops : Array Oper) : List Oper → S → S × Prop × List Oper
  | [], s => (s, True, [])
  | o :: r, s =>
    match step E ops s o with
    | none => (s, True, o :: r)
    | some (s', ob) =>
      match run E ops r s' with
      | (s2, ob2, r2) => (s2, ob ∧ ob2, r2)

theorem TL_run (hE : TEOK P E) {ops : Array Oper} {K : S → Prop} : ∀ {rest : List Oper} {s s' : S} {ob : Prop} {rest' : List Oper}, run E ops rest s = (s', ob, rest') → ob → TL P c ops rest' s' K → TL P c ops rest s K
  | [], s, s', ob, rest', h, _, k => by
    simp only [run, Prod.mk.injEq] at h
    obtain ⟨rfl, _, rfl⟩ := h
    exact k
  | o :: r, s, s', ob, rest', h, hob, k => by
    unfold run at h
    split at h
    · simp only [Prod.mk.injEq] at h
      obtain ⟨rfl, _, rfl⟩ := h
      exact k
    · rename_i s1 ob1 h1
      split at h
      rename_i s2 ob2 r2 h2
      simp only [Prod.mk.injEq] at h
      obtain ⟨rfl, rfl, rfl⟩ := h
      exact TL_step hE h1 hob.1 (TL_run hE h2 hob.2 k)

/-! ### Code -/
def T (P : Program) (c : Ctx) (code : Code) (s : S) (Q : Exit → S → Prop) : Prop :=
  ∀ g a, Rel c s g a → code.wp P (fun x a' w' => ∃ s' g', Q x s' ∧ g'.w = w' ∧ Rel c s' g' a') a g.w

theorem T_sub {code : Code} {s s' : S} {Q : Exit → S → Prop} (h : T P c code s Q) (k : Sub s s') : T P c code s' Q := fun g a hR => h g a (hR.sub k)
theorem T_mono {code : Code} {Q Q' : Exit → S → Prop} (h : T P c code s Q) (k : ∀ x s', Q x s' → Q' x s') : T P c code s Q' :=
  fun g a hR => wp_mono (h g a hR) fun x a' w' ⟨s', g', h1, h2⟩ => ⟨s', g', k _ _ h1, h2⟩

theorem T_skip {Q : Exit → S → Prop} (h : Q .normal s) : T P c .skip s Q := fun g _ hR => wp_skip ⟨s, g, h, rfl, hR⟩
theorem T_exit {id : Nat} {Q : Exit → S → Prop} (h : Q (.exit id) s) : T P c (.exit id) s Q := fun g _ hR => wp_exit ⟨s, g, h, rfl, hR⟩
theorem T_ret {Q : Exit → S → Prop} (h : Q .ret s) : T P c .ret s Q := fun g _ hR => wp_ret ⟨s, g, h, rfl, hR⟩

def seqQ (next : S → Prop) (Q : Exit → S → Prop) : Exit → S → Prop
  | .normal, s => next s
  | x, s => Q x s
theorem T_seq {x y : Code} {Q : Exit → S → Prop} (h : T P c x s (seqQ (fun s' => T P c y s' Q) Q)) : T P c (.seq x y) s Q := by
  intro g a hR
  refine wp_seq (wp_mono (h g a hR) fun e a' w' ⟨s', g', h1, h2, h3⟩ => ?_)
  subst h2
  cases e <;> first
    | exact h1 g' a' h3
    | exact ⟨s', g', h1, rfl, h3⟩
theorem T_cond {x : Operand} {b : Bool} {ob : Prop} {t e : Code} {Q : Exit → S → Prop} (h : evp s x = some (.bool b, ob)) (hob : ob) (ht : b = true → T P c t s Q) (he : b = false → T P c e s Q) :
    T P c (.cond x t e) s Q := by
  intro g a hR
  have := inv_bool (evp_sound hR h hob)
  refine wp_cond this ?_
  cases b
  · exact he rfl g a hR
  · exact ht rfl g a hR
def blockQ (id : Nat) (Q : Exit → S → Prop) : Exit → S → Prop
  | .exit i, s => if i = id then Q .normal s else Q (.exit i) s
  | x, s => Q x s
theorem T_block {id : Nat} {x : Code} {Q : Exit → S → Prop} (h : T P c x s (blockQ id Q)) : T P c (.block id x) s Q := by
  intro g a hR
  refine wp_block (wp_mono (h g a hR) fun e a' w' ⟨s', g', h1, h2, h3⟩ => ?_)
  subst h2
  cases e with
  | exit i =>
    show (if i = id then _ else _)
    have h1 : (if i = id then Q .normal s' else Q (.exit i) s') := h1
    split
    · rename_i e; rw [if_pos e] at h1; exact ⟨s', g', h1, rfl, h3⟩
    · rename_i e; rw [if_neg e] at h1; exact ⟨s', g', h1, rfl, h3⟩
  | normal => exact ⟨s', g', h1, rfl, h3⟩
  | ret => exact ⟨s', g', h1, rfl, h3⟩
  | goto l => exact ⟨s', g', h1, rfl, h3⟩
  | panic ch => exact ⟨s', g', h1, rfl, h3⟩
  | outgrown => exact ⟨s', g', h1, rfl, h3⟩

theorem T_region {id : Nat} {l : List Oper} {Q : Exit → S → Prop} (h : TL P c l.toArray l s (fun s' => Q .normal s')) : T P c (.region id l.toArray false) s Q :=
  fun g a hR => wp_region_lit (h g a _ hR fun s' g' _ h1 h2 => ⟨s', g', h1, rfl, h2⟩)

/-- A loop: whatever is said of the round's head, with a number that goes down. -/
theorem T_loop {x : Code} {Q : Exit → S → Prop} {ι : Type} (st : ι → S) (inv : ι → Prop) (μ : ι → Nat) (i0 : ι) (h0 : inv i0) (hs : Sub (st i0) s)
    (h : ∀ i, inv i → T P c x (st i) (seqQ (fun s' => ∃ j, inv j ∧ μ j < μ i ∧ Sub (st j) s') Q)) : T P c (.loop x) s Q := by
  intro g a hR
  refine wp_loop_ghost (fun n a w => ∃ i g, inv i ∧ μ i = n ∧ g.w = w ∧ Rel c (st i) g a) (μ i0) ⟨i0, g, h0, rfl, rfl, hR.sub hs⟩ fun n a w ⟨i, g, hi, hn, hw, hR⟩ => ?_
  subst hw
  refine wp_mono (h i hi g a hR) fun e a' w' ⟨s', g', h1, h2, h3⟩ => ?_
  subst h2
  cases e <;> first
    | (obtain ⟨j, hj, hlt, hsub⟩ := h1; exact ⟨μ j, by omega, j, g', hj, rfl, rfl, h3.sub hsub⟩)
    | exact ⟨s', g', h1, rfl, h3⟩

/-! ### Functions -/
/-- The arguments as they are handed in. -/
def ArgsR (w : World) (mu : Addr → Prop) (args : List PV) (vs : List Value) : Prop := vs.length = args.length ∧ ∀ (i : Nat) p v, args[i]? = some p → vs[i]? = some v → RRel w mu p v

/-- A result: data, or several. -/
def ResR (w : World) (mu : Addr → Prop) : PV → Value → Prop
  | .tup l, v => ∃ vs : List Value, v = .tuple vs.toArray ∧ vs.length = l.length ∧ ∀ (i : Nat) p u, l[i]? = some p → vs[i]? = some u → RRel w mu p u
  | p, v => RRel w mu p v

structure Meets (P : Program) (f : Nat) (args : List PV) (res : PV) : Prop where
  enter : ∀ (vs : Array Value) (w : World), (callFunc f vs).run P w = .ok (.enter f vs) w
  calls : ∀ w mu vs, (∀ a : Addr, mu a → a.block < w.heap.size) → ArgsR w mu args vs →
    Calls P f vs.toArray w fun e w' => ∃ v, e = .returned v ∧ ResR w' mu res v ∧ Below w.heap.size w w'
theorem enter_of {f : Nat} {fn : Func} {code : Code} (hf : P.funcs[f]? = some fn) (hb : fn.body = some code) (hn : (fn.name == "runtime.NumGoroutine") = false) (vs : Array Value) (w : World) :
    (callFunc f vs).run P w = .ok (.enter f vs) w := by
  simp [callFunc, hf, hb]
  intro h
  rw [h] at hn
  cases hn

def entryT : Nat → List PV → List (Nat × PV)
  | _, [] => []
  | i, p :: l => (i, p) :: entryT (i + 1) l
def entry (n : Nat) (args : List PV) : S := { n := n, t := entryT 0 args, b := [], r := [] }

theorem lk_entryT : ∀ {l : List PV} {i t : Nat} {p : PV}, lk t (entryT i l) = some p → i ≤ t ∧ l[t - i]? = some p
  | [], i, t, p, h => by cases h
  | q :: l, i, t, p, h => by
    unfold entryT lk at h
    split at h
    · rename_i e
      cases h
      simp only at e
      subst e
      simp
    · obtain ⟨h1, h2⟩ := lk_entryT h
      refine ⟨by omega, ?_⟩
      rw [show t - i = (t - (i + 1)) + 1 by omega]
      simpa using h2

def resOne (E : TE) (s : S) : ResultVar → Option PV
  | .tmp t => match lk t s.t with
    | some p => frzN s p
    | none => none
  | .cell p T => match lk p s.t, lk T E with
    | some (.ref id 0), some ti => match lk id s.b with
      | some bx => match mkAt ti bx.l 0 with
        | some q => frzN s q
        | none => none
      | none => none
    | _, _ => none
def resAll (E : TE) (s : S) : List ResultVar → Option (List PV)
  | [] => some []
  | r :: l => match resOne E s r, resAll E s l with
    | some p, some m => some (p :: m)
    | _, _ => none
def resPV (E : TE) (s : S) (rs : List ResultVar) : Option PV :=
  match resAll E s rs with
  | some [p] => some p
  | some l => some (.tup l)
  | none => none

def resSem (tmps : Array Value) : ResultVar → Sem Value
  | .tmp t => pure (tmps.getD t undef)
  | .cell a t => do loadVar t (← asAddr (tmps.getD a undef))

theorem resOne_sound (hE : TEOK P E) (hR : Rel c s g a) {r : ResultVar} {p : PV} (h : resOne E s r = some p) :
    ∃ v, (resSem a.tmps r).run P g.w = .ok v g.w ∧ RRel g.w g.mu p v := by
  unfold resOne at h
  split at h
  · rename_i t
    split at h
    · rename_i q hl
      have hno : ∀ b x, q ≠ .opt b x := fun b x e => by subst e; cases h
      have hnt : ∀ l, q ≠ .tup l := fun l e => by subst e; cases h
      exact ⟨_, rfl, frzN_sound hR h (V2_of_V3 hnt (V3_of_V4 hno (hR.tmps t q hl)))⟩
    · cases h
  · rename_i t T
    split at h
    · rename_i id ti hl ht
      split at h
      · rename_i bx hbx
        split at h
        · rename_i q hq
          have e1 := inv_ref (V3_of_V4 (fun _ _ e => by cases e) (hR.tmps t _ hl))
          obtain ⟨u, h1, h2⟩ := box_load hR hbx
          obtain ⟨v, hv, hv3⟩ := mkAt_load (P := P) (hE _ _ ht) hq ⟨g.β id, 0, none⟩ u h2
          replace hv := hv g.w (fun j hj1 hj => by
            have : (⟨g.β id, 0, none⟩ : Addr).add (j - 0) = ⟨g.β id, j, none⟩ := by rw [Addr.add_mid]; congr 1; omega
            rw [this]; exact h1 j hj)
          have hnt : ∀ l, q ≠ .tup l := fun l e => by subst e; cases h
          refine ⟨v, ?_, frzN_sound hR h (V2_of_V3 hnt hv3)⟩
          simp only [Instr.loadAt, Instr.sureAddr, Sem.run_bind, Sem.run_pure, Result.andThen_ok] at hv
          simp only [resSem, e1, asAddr, Sem.run_bind, Sem.run_pure, Result.andThen_ok, hv]
        · cases h
      · cases h
    · cases h

theorem resAll_sound (hE : TEOK P E) (hR : Rel c s g a) : ∀ {rs : List ResultVar} {l : List PV}, resAll E s rs = some l →
    ∃ vs : List Value, (rs.mapM (resSem a.tmps)).run P g.w = .ok vs g.w ∧ vs.length = l.length ∧ ∀ (i : Nat) p v, l[i]? = some p → vs[i]? = some v → RRel g.w g.mu p v
  | [], l, h => by
    cases h
    exact ⟨[], by simp, rfl, fun i p v h => by simp at h⟩
  | r :: rs, l, h => by
    unfold resAll at h
    split at h
    · rename_i p m h1 h2
      cases h
      obtain ⟨v, hv1, hv2⟩ := resOne_sound hE hR h1
      obtain ⟨vs, hw1, hw2, hw3⟩ := resAll_sound hE hR h2
      refine ⟨v :: vs, by simp [hv1, hw1], by simp [hw2], fun i p' v' a b => ?_⟩
      cases i with
      | zero =>
        simp at a b
        subst a; subst b
        exact hv2
      | succ i => exact hw3 i p' v' (by simpa using a) (by simpa using b)
    · cases h

theorem resPV_sound (hE : TEOK P E) (hR : Rel c s g a) {fn : Func} {p : PV} (h : resPV E s fn.results.toList = some p) :
    ∃ v, (results fn a.tmps).run P g.w = .ok v g.w ∧ ResR g.w g.mu p v := by
  have hres : results fn a.tmps = (do
      let vs ← fn.results.mapM (resSem a.tmps)
      pure (if h : vs.size = 1 then vs[0] else .tuple vs)) := by
    unfold results
    congr 1
  have key : ∀ l, resAll E s fn.results.toList = some l → ∃ vs : List Value, vs.length = l.length ∧ (∀ (i : Nat) p v, l[i]? = some p → vs[i]? = some v → RRel g.w g.mu p v) ∧
      (results fn a.tmps).run P g.w = .ok (if h : vs.toArray.size = 1 then vs.toArray[0] else .tuple vs.toArray) g.w := by
    intro l hl
    obtain ⟨vs, h1, h2, h3⟩ := resAll_sound hE hR hl
    refine ⟨vs, h2, h3, ?_⟩
    rw [hres]
    simp [Array.mapM_eq_mapM_toList, h1]
  unfold resPV at h
  split at h
  · rename_i q hq
    cases h
    obtain ⟨vs, h1, h2, h3⟩ := key _ hq
    match vs, h1 with
    | [v], _ =>
      have hv := h2 0 p v rfl rfl
      refine ⟨v, by simpa using h3, ?_⟩
      cases p <;> first | exact hv | cases hv
  · rename_i l hl hq
    cases h
    obtain ⟨vs, h1, h2, h3⟩ := key _ hq
    have hne : ¬ vs.length = 1 := by
      intro e
      rw [h1] at e
      match l, e with
      | [x], _ => exact hl x rfl
    refine ⟨.tuple vs.toArray, ?_, vs, rfl, h1, h2⟩
    rw [h3, dif_neg (by simpa using hne)]
  · cases h

/-- All rows are written no more. -/
def fzr (p : Nat × Rw) : Nat × Rw := (p.1, { p.2 with ex := false })
def S.fza (s : S) : S := { s with r := s.r.map fzr }
theorem lk_fzr {e : Nat} {y : Rw} : ∀ {l : List (Nat × Rw)}, lk e (l.map fzr) = some y → ∃ x, lk e l = some x ∧ y = { x with ex := false }
  | [], h => by cases h
  | p :: l, h => by
    simp only [List.map_cons, lk, fzr] at h
    unfold lk
    split at h
    · rename_i e'
      cases h
      rw [if_pos e']
      exact ⟨_, rfl, rfl⟩
    · rename_i e'
      rw [if_neg e']
      exact lk_fzr h
theorem lk_of_fz {ids : List Nat} {e : Nat} {x : Rw} : ∀ {l : List (Nat × Rw)}, lk e l = some x → lk e (l.map (Rw.fz ids)) = some { x with ex := x.ex && !(ids.contains e) }
  | [], h => by cases h
  | p :: l, h => by
    unfold lk at h
    simp only [List.map_cons, lk, Rw.fz]
    split at h
    · rename_i e'
      cases h
      rw [if_pos e', e']
    · rename_i e'
      rw [if_neg e']
      exact lk_of_fz h
theorem lk_mem {α : Type} {e : Nat} {x : α} : ∀ {l : List (Nat × α)}, lk e l = some x → e ∈ l.map (·.1)
  | [], h => by cases h
  | p :: l, h => by
    unfold lk at h
    split at h
    · rename_i e'; subst e'; simp
    · exact List.mem_cons_of_mem _ (lk_mem h)
theorem Rel.fza (hR : Rel c s g a) : Rel c s.fza (fzG g s.r (s.r.map fun p : Nat × Rw => p.1)) a := by
  have h1 := hR.fz (s.r.map fun p : Nat × Rw => p.1)
  have h2 : Sub s.fza (s.fz (s.r.map fun p : Nat × Rw => p.1)) := ⟨rfl, fun _ _ h => h, fun _ _ h => h, fun t y h => by
    obtain ⟨x, hx, rfl⟩ := lk_fzr h
    have := lk_of_fz (ids := s.r.map fun p : Nat × Rw => p.1) hx
    have hc : (s.r.map fun p : Nat × Rw => p.1).contains t = true := by
      rw [List.contains_iff_mem]
      exact lk_mem hx
    rw [hc] at this
    simp only [Bool.not_true, Bool.and_false] at this
    exact this⟩
  exact h1.sub h2

/-- Where a function's body has come to its end. -/
def Ends (E : TE) (rs : List ResultVar) (res : PV) : Exit → S → Prop
  | .normal, s => resPV E s.fza rs = some res
  | .ret, s => resPV E s.fza rs = some res
  | _, _ => False

theorem ResR.mono {w : World} {mu mu' : Addr → Prop} {p : PV} {v : Value} (h : ResR w mu p v) (hk : ∀ a, ¬ mu a → ¬ mu' a) : ResR w mu' p v := by
  have h1 : ∀ {q u}, RRel w mu q u → RRel w mu' q u := fun hr => hr.mono fun a u x y => ⟨hk a x, y⟩
  cases p <;> first
    | exact h1 h
    | (obtain ⟨vs, e, hl, hv⟩ := h
       exact ⟨vs, e, hl, fun i p u a b => h1 (hv i p u a b)⟩)

theorem Meets_of_T (hE : TEOK P E) {f : Nat} {fn : Func} {code : Code} {args : List PV} {res : PV} (hf : P.funcs[f]? = some fn) (hb : fn.body = some code) (hnm : (fn.name == "runtime.NumGoroutine") = false) (hn : args.length ≤ fn.ntmps)
    (h : ∀ c, T P c code (entry fn.ntmps args) (Ends E fn.results.toList res)) : Meets P f args res := by
  refine ⟨enter_of hf hb hnm, ?_⟩
  intro w mu vs hmu ⟨hl, hv⟩
  let g : G := { w := w, mu := mu, β := fun _ => 0, ρ := fun _ => .slice none 0 0 }
  let c : Ctx := { w0 := w, mu0 := mu, own := fun _ => False, β0 := fun _ => 0, low := fun x hx => ⟨hmu x hx, id⟩ }
  refine calls_of_wp hf hb ?_
  have hR : Rel c (entry fn.ntmps args) g { tmps := vs.toArray ++ Array.replicate (fn.ntmps - vs.toArray.size) undef, defers := [] } := by
    refine { defers := rfl, size := ?_, tmps := fun t p ht => ?_, boxes := (fun _ _ h => by cases h), apart := (fun _ _ _ _ h => by cases h), rows := (fun _ _ h => by cases h), rbox := (fun _ _ _ _ h => by cases h), rrow := (fun _ _ _ _ _ h => by cases h), bmine := (fun _ _ h => by cases h), rmine := (fun _ _ _ h => by cases h), below := Blw.refl _ _, base := fun _ h => h, lim := hmu, rho := fun _ => rfl, fixed := fun _ _ => rfl }
    · simp [entry]; omega
    · obtain ⟨_, h2⟩ := lk_entryT ht
      simp only [Nat.sub_zero] at h2
      have hlt := (List.getElem?_eq_some_iff.1 h2).1
      have hlt' : t < vs.length := by omega
      have hvt : vs[t]? = some vs[t] := List.getElem?_eq_getElem hlt'
      have hg : (vs.toArray ++ Array.replicate (fn.ntmps - vs.toArray.size) undef).getD t undef = vs[t] := by
        simp [Array.getD_eq_getD_getElem?, Array.getElem?_append, hlt']
      rw [hg]
      exact .of (hv t p _ h2 hvt)
  refine wp_mono (h c g _ hR) fun x a' w' ⟨s', g', h1, h2, h3⟩ => ?_
  subst h2
  have fin : resPV E s'.fza fn.results.toList = some res → a'.defers = [] ∧ ∃ v, (results fn a'.tmps).run P g'.w = .ok v g'.w ∧
      ∃ u, Ending.returned v = Ending.returned u ∧ ResR g'.w mu res u ∧ Below w.heap.size w g'.w := by
    intro hp
    have h4 := h3.fza
    obtain ⟨v, hv1, hv2⟩ := resPV_sound hE h4 hp
    exact ⟨h3.defers, v, hv1, v, rfl, hv2.mono (fun y hy hy' => hy (h4.base y hy')), ⟨h3.below.os, h3.below.tape, h3.below.output, h3.below.size, fun k hk => h3.below.block k hk id⟩⟩
  cases x with
  | normal => exact fin h1
  | ret => exact fin h1
  | _ => exact h1.elim
end Go.Mh
