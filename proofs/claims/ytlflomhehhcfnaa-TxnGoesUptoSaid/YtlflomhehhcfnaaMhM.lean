/- A contract under other names. -/
import Derived.Test.YtlflomhehhcfnaaMhL
namespace Go.Mh
open Go Go.RowKit
variable {P : Program} {E : TE}

def rn1 (m n : Nat) : PV → PV
  | .ref i o => .ref (i + m) o
  | .mref i => .mref (i + m)
  | .cloB f l => .cloB f (l.map (· + m))
  | .row e => .row (e + n)
  | .rptr e sz i f => .rptr (e + n) sz i f
  | .rsl e sz lo k => .rsl (e + n) sz lo k
  | p => p
def rnB (m n : Nat) (b : List (Nat × Bx)) : List (Nat × Bx) := b.map fun p => (p.1 + m, ⟨p.2.T, p.2.l.map (rn1 m n)⟩)
def rnR (n : Nat) (r : List (Nat × Rw)) : List (Nat × Rw) := r.map fun p => (p.1 + n, p.2)
/-- A state of names, seen with the old ones. -/
def unG (g : G) (m n : Nat) : G := { g with β := fun i => g.β (i + m), ρ := fun e => g.ρ (e + n) }
def reG (g : G) (m n : Nat) : G := { g with β := fun i => g.β (i - m), ρ := fun e => g.ρ (e - n) }
theorem un_re (g : G) (m n : Nat) : unG (reG g m n) m n = g := by
  cases g
  simp [unG, reG]

theorem V1_un {g : G} {m n : Nat} {p : PV} {v : Value} : V1 (unG g m n) p v ↔ V1 g (rn1 m n p) v := by
  cases p with
  | cloB f l =>
    show v = .func (.func f) #[] (l.map fun i => Value.pointer (some ⟨g.β (i + m), 0, none⟩)).toArray ↔ v = .func (.func f) #[] ((l.map (· + m)).map fun i => Value.pointer (some ⟨g.β i, 0, none⟩)).toArray
    rw [List.map_map]
    exact Iff.rfl
  | _ => exact Iff.rfl
theorem V2_un {g : G} {m n : Nat} {p : PV} {v : Value} : V2 (unG g m n) p v ↔ V2 g (map2 (rn1 m n) p) v := by
  rcases agg_or p with ⟨l, rfl⟩ | hn
  · constructor
    · rintro ⟨vs, rfl, hl, hi⟩
      refine ⟨vs, rfl, by simp [hl], fun i p u h1 h2 => ?_⟩
      rw [List.getElem?_map, Option.map_eq_some_iff] at h1
      obtain ⟨q, hq, rfl⟩ := h1
      exact V1_un.1 (hi i q u hq h2)
    · rintro ⟨vs, rfl, hl, hi⟩
      refine ⟨vs, rfl, by simpa using hl, fun i p u h1 h2 => V1_un.2 (hi i _ u ?_ h2)⟩
      rw [List.getElem?_map, h1]; rfl
  · have e : map2 (rn1 m n) p = rn1 m n p := by cases p <;> first | rfl | exact absurd rfl (hn _)
    have hn' : ∀ l, rn1 m n p ≠ .agg l := by cases p <;> first | (intro l h; cases h; done) | exact absurd rfl (hn _)
    rw [e, V2_iff hn, V2_iff hn']
    exact V1_un
theorem V3_un {g : G} {m n : Nat} {p : PV} {v : Value} : V3 (unG g m n) p v ↔ V3 g (map3 (rn1 m n) p) v := by
  rcases tup_or p with ⟨l, rfl⟩ | hn
  · constructor
    · rintro ⟨vs, rfl, hl, hi⟩
      refine ⟨vs, rfl, by simp [hl], fun i p u h1 h2 => ?_⟩
      rw [List.getElem?_map, Option.map_eq_some_iff] at h1
      obtain ⟨q, hq, rfl⟩ := h1
      exact V2_un.1 (hi i q u hq h2)
    · rintro ⟨vs, rfl, hl, hi⟩
      refine ⟨vs, rfl, by simpa using hl, fun i p u h1 h2 => V2_un.2 (hi i _ u ?_ h2)⟩
      rw [List.getElem?_map, h1]; rfl
  · have e : map3 (rn1 m n) p = map2 (rn1 m n) p := by cases p <;> first | rfl | exact absurd rfl (hn _)
    have hn' : ∀ l, map2 (rn1 m n) p ≠ .tup l := by cases p <;> first | (intro l h; cases h; done) | exact absurd rfl (hn _)
    rw [e, V3_iff hn, V3_iff hn']
    exact V2_un

theorem lk_rnB {m n i : Nat} : ∀ {b : List (Nat × Bx)}, lk (i + m) (rnB m n b) = (lk i b).map fun x => (⟨x.T, x.l.map (rn1 m n)⟩ : Bx)
  | [] => rfl
  | p :: b => by
    show (if i + m = p.1 + m then some (⟨p.2.T, p.2.l.map (rn1 m n)⟩ : Bx) else lk (i + m) (rnB m n b)) = (if i = p.1 then some p.2 else lk i b).map _
    by_cases h : i = p.1
    · rw [if_pos (by omega), if_pos h]; rfl
    · rw [if_neg (by omega), if_neg h]; exact lk_rnB
theorem lk_rnB' {m n j : Nat} {y : Bx} : ∀ {b : List (Nat × Bx)}, lk j (rnB m n b) = some y → ∃ i, j = i + m
  | [], h => by cases h
  | p :: b, h => by
    have h : (if j = p.1 + m then some (⟨p.2.T, p.2.l.map (rn1 m n)⟩ : Bx) else lk j (rnB m n b)) = some y := h
    split at h
    · rename_i e; exact ⟨_, e⟩
    · exact lk_rnB' h
theorem lk_rnR {n i : Nat} : ∀ {b : List (Nat × Rw)}, lk (i + n) (rnR n b) = lk i b
  | [] => rfl
  | p :: b => by
    show (if i + n = p.1 + n then some p.2 else lk (i + n) (rnR n b)) = (if i = p.1 then some p.2 else lk i b)
    by_cases h : i = p.1
    · rw [if_pos (by omega), if_pos h]
    · rw [if_neg (by omega), if_neg h]; exact lk_rnR
theorem lk_rnR' {n j : Nat} {y : Rw} : ∀ {b : List (Nat × Rw)}, lk j (rnR n b) = some y → ∃ i, j = i + n
  | [], h => by cases h
  | p :: b, h => by
    have h : (if j = p.1 + n then some p.2 else lk j (rnR n b)) = some y := h
    split at h
    · rename_i e; exact ⟨_, e⟩
    · exact lk_rnR' h
theorem lkB_inv {m n j : Nat} {y : Bx} {b : List (Nat × Bx)} (h : lk j (rnB m n b) = some y) : ∃ i x, j = i + m ∧ lk i b = some x ∧ y = ⟨x.T, x.l.map (rn1 m n)⟩ := by
  obtain ⟨i, rfl⟩ := lk_rnB' h
  rw [lk_rnB, Option.map_eq_some_iff] at h
  obtain ⟨x, hx, rfl⟩ := h
  exact ⟨i, x, rfl, hx, rfl⟩
theorem lkR_inv {n j : Nat} {y : Rw} {b : List (Nat × Rw)} (h : lk j (rnR n b) = some y) : ∃ i, j = i + n ∧ lk i b = some y := by
  obtain ⟨i, rfl⟩ := lk_rnR' h
  rw [lk_rnR] at h
  exact ⟨i, rfl, h⟩

theorem Hold_un {g : G} {m n : Nat} {b : List (Nat × Bx)} {r : List (Nat × Rw)} (h : Hold g (rnB m n b) (rnR n r)) : Hold (unG g m n) b r := by
  have hb : ∀ i x, lk i b = some x → lk (i + m) (rnB m n b) = some ⟨x.T, x.l.map (rn1 m n)⟩ := fun i x hx => by rw [lk_rnB, hx]; rfl
  have hr : ∀ i x, lk i r = some x → lk (i + n) (rnR n r) = some x := fun i x hx => by rw [lk_rnR, hx]
  refine ⟨fun i x hx => ?_, fun i j x y hx hy hij => h.apart _ _ _ _ (hb i x hx) (hb j y hy) (by omega), fun e x hx => h.rows _ _ (hr e x hx), fun e x i y hx hy => h.rbox _ _ _ _ (hr e x hx) (hb i y hy), fun e x e' x' k hx hx' hne hk => h.rrow _ _ _ _ k (hr e x hx) (hr e' x' hx') (by omega) hk⟩
  obtain ⟨⟨cs, h1, h2, h3⟩, h4⟩ := h.boxes _ _ (hb i x hx)
  refine ⟨⟨cs, h1, by simpa using h2, fun j p v a1 a2 => V1_un.2 (h3 j _ v ?_ a2)⟩, h4⟩
  show (x.l.map (rn1 m n))[j]? = _
  rw [List.getElem?_map, a1]; rfl
theorem Hold_re {g : G} {m n : Nat} {b : List (Nat × Bx)} {r : List (Nat × Rw)} (h : Hold g b r) : Hold (reG g m n) (rnB m n b) (rnR n r) := by
  have eβ : ∀ i, (reG g m n).β (i + m) = g.β i := fun i => by show g.β (i + m - m) = _; rw [Nat.add_sub_cancel]
  have eρ : ∀ i, (reG g m n).ρ (i + n) = g.ρ i := fun i => by show g.ρ (i + n - n) = _; rw [Nat.add_sub_cancel]
  refine ⟨fun j y hy => ?_, fun i j x y hx hy hij => ?_, fun e x hx => ?_, fun e x i y hx hy => ?_, fun e x e' x' k hx hx' hne hk => ?_⟩
  · obtain ⟨i, x, rfl, hx, rfl⟩ := lkB_inv hy
    obtain ⟨⟨cs, h1, h2, h3⟩, h4⟩ := h.boxes i x hx
    refine ⟨⟨cs, by rw [eβ]; exact h1, by simpa using h2, fun j p v a1 a2 => ?_⟩, fun off => by rw [eβ]; exact h4 off⟩
    have a1 : (x.l.map (rn1 m n))[j]? = some p := a1
    rw [List.getElem?_map, Option.map_eq_some_iff] at a1
    obtain ⟨q, hq, rfl⟩ := a1
    refine V1_un.1 ?_
    rw [un_re]
    exact h3 j q v hq a2
  · obtain ⟨i', x', rfl, hx', _⟩ := lkB_inv hx
    obtain ⟨j', y', rfl, hy', _⟩ := lkB_inv hy
    rw [eβ, eβ]
    exact h.apart i' j' x' y' hx' hy' (by omega)
  · obtain ⟨i, rfl, hx2⟩ := lkR_inv hx
    obtain ⟨cs, h1, h2, h3, h4⟩ := h.rows i x hx2
    exact ⟨cs, by rw [eρ]; exact h1, h2, h3, by rw [eρ]; exact h4⟩
  · obtain ⟨e', rfl, hx2⟩ := lkR_inv hx
    obtain ⟨j', y', rfl, hy', _⟩ := lkB_inv hy
    rw [eβ, eρ]
    exact h.rbox e' x j' y' hx2 hy'
  · obtain ⟨i, rfl, hx2⟩ := lkR_inv hx
    obtain ⟨j, rfl, hx3⟩ := lkR_inv hx'
    rw [eρ] at hk ⊢
    exact h.rrow i x j x' k hx2 hx3 (by omega) hk

theorem owns_un {g : G} {m n : Nat} {b : List (Nat × Bx)} {r : List (Nat × Rw)} (k : Nat) : ownsB (unG g m n) b r k ↔ ownsB g (rnB m n b) (rnR n r) k := by
  constructor
  · rintro (⟨i, x, hx, e⟩ | ⟨e, x, hx, he⟩)
    · exact .inl ⟨i + m, _, by rw [lk_rnB, hx]; rfl, e⟩
    · exact .inr ⟨e + n, x, by rw [lk_rnR, hx], he⟩
  · rintro (⟨j, y, hy, e⟩ | ⟨e, x, hx, he⟩)
    · obtain ⟨i, x, rfl, hx, _⟩ := lkB_inv hy
      exact .inl ⟨i, x, hx, e⟩
    · obtain ⟨i, rfl, hx2⟩ := lkR_inv hx
      exact .inr ⟨i, x, hx2, he⟩

/-- Box i is called i + m now, row e is called e + n. -/
theorem Owns.ren {f : Nat} {args : List PV} {b : List (Nat × Bx)} {r : List (Nat × Rw)} {res : PV} {b' : List (Nat × Bx)} {r' : List (Nat × Rw)} (h : Owns P f args b r res b' r') (m n : Nat) :
    Owns P f (args.map (map2 (rn1 m n))) (rnB m n b) (rnR n r) (map3 (rn1 m n) res) (rnB m n b') (rnR n r') := by
  refine ⟨h.enter, fun g vs hlim hrho hH hl hv => ?_⟩
  have hc := h.calls (unG g m n) vs hlim (fun e => hrho (e + n)) (Hold_un hH) (by simpa using hl) (fun i p v a1 a2 => V2_un.2 (hv i _ v (by rw [List.getElem?_map, a1]; rfl) a2))
  refine hc.mono fun e w' ⟨v, g', he, hw, hend⟩ => ⟨v, reG g' m n, he, hw, ?_⟩
  have hown : ∀ k, ownsB g' b' r' k ↔ ownsB (reG g' m n) (rnB m n b') (rnR n r') k := fun k => by
    rw [← owns_un (g := reG g' m n), un_re]
  refine { res := V3_un.1 (by rw [un_re]; exact hend.res), hold := Hold_re hend.hold, rho := fun e => hend.rho (e - n), lim := hend.lim, below := ?_, base := fun x hx hno => hend.base x hx (fun h => hno ((owns_un _).1 h)), mu := fun x hx => (hend.mu x hx).imp id (hown _).1, own := fun k hk => (hend.own k ((hown k).2 hk)).imp (owns_un _).1 id, fixed := fun i x hx => ?_ }
  · exact ⟨hend.below.os, hend.below.tape, hend.below.output, hend.below.size, fun k hk hno => hend.below.block k hk (fun h => hno ((owns_un _).1 h))⟩
  · obtain ⟨j, y, rfl, hy, _⟩ := lkB_inv hx
    show g'.β (j + m - m) = _
    rw [Nat.add_sub_cancel]
    exact hend.fixed j y hy

/-- A contract with other words for the same. -/
theorem Owns.to {f : Nat} {args args0 : List PV} {b b0 : List (Nat × Bx)} {r r0 : List (Nat × Rw)} {res res0 : PV} {b' b0' : List (Nat × Bx)} {r' r0' : List (Nat × Rw)} (h : Owns P f args b r res b' r')
    (h1 : args = args0) (h2 : b = b0) (h3 : r = r0) (h4 : res = res0) (h5 : b' = b0') (h6 : r' = r0') : Owns P f args0 b0 r0 res0 b0' r0' := by
  subst h1; subst h2; subst h3; subst h4; subst h5; subst h6; exact h
attribute [go_sem] rn1 rnB rnR
end Go.Mh
