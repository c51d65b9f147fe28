/- An own row that a call has turned, told by its memory. -/
import Derived.Test.YtlflomhehhcfnaaMhN
namespace Go.Mh
open Go Go.RowKit
variable {P : Program} {E : TE} {c : Ctx} {s : S} {g : G} {a : Act}

/-- Row e (and whatever else was handed over) behind a call: the row lies in block k, where it lay or anew. -/
theorem OwnsEnd.row {r0 : List (Nat × Rw)} (hH : Hold g [] r0) (hlim : ∀ x, g.mu x → x.block < g.w.heap.size) (hrho : ∀ e, (g.ρ e).oneCell' = true) (hex : (r0.all fun p => p.2.ex) = true)
    {e T sz n cap k : Nat} {w' : World} {cur : Array Value} {xs : List PV} (hn : n = xs.length)
    (hk : ownsB g [] r0 k ∨ g.w.heap.size ≤ k) (hheap : w'.heap[k]? = some (.cells cur T (0, 0))) (hcap : n ≤ cap) (hm : cap ≤ maxLen) (hcur : cur.size = cap * sz)
    (hos : w'.os = g.w.os) (htape : w'.tape = g.w.tape) (hout : w'.output = g.w.output) (hsize : g.w.heap.size ≤ w'.heap.size)
    (hold : ∀ j, j < g.w.heap.size → ¬ ownsB g [] r0 j → w'.heap[j]? = g.w.heap[j]?)
    (hz : ∀ y ∈ xs, y.cells.length = sz)
    (hv : ∀ (i j : Nat) y p u, xs[i]? = some y → y.cells[j]? = some p → cur[i * sz + j]? = some u → RRel g.w g.mu p u) :
    ∃ g', g'.w = w' ∧ OwnsEnd g [] r0 (.row e) [] [(e, ⟨T, sz, xs, true⟩)] (.slice (some ⟨k, 0, none⟩) n cap) g' := by
  have hbl : ∀ x u, ¬ g.mu x → g.w.cell? x = some u → ¬ ownsB g [] r0 x.block := by
    intro x u hx hc
    have hxe := spot_of_cell hc
    rintro (⟨i, y, hy, _⟩ | ⟨e, y, hy, he⟩)
    · cases hy
    · apply hx
      obtain ⟨_, _, _, _, hmu⟩ := hH.rows e y hy
      have hy' : y.ex = true := lk_all hex e y hy
      rw [hxe]
      rcases Nat.lt_or_ge x.off (y.xs.length * y.sz) with h1 | h1
      · exact ((hmu _ he).1 _ h1).2 hy'
      · exact (hmu _ he).2 _ h1
  let g' : G := { w := w', mu := fun x => (g.mu x ∧ ¬ ownsB g [] r0 x.block) ∨ x.block = k, β := g.β, ρ := fun j => if j = e then .slice (some ⟨k, 0, none⟩) n cap else g.ρ j }
  have hρ : g'.ρ e = .slice (some ⟨k, 0, none⟩) n cap := if_pos rfl
  have hkeep : ∀ x u, ¬ g.mu x → g.w.cell? x = some u → ¬ g'.mu x ∧ g'.w.cell? x = some u := by
    intro x u hx hc
    have hno := hbl x u hx hc
    have hlt := World.block_lt_of_cell? g.w x hc
    refine ⟨fun h => ?_, by rw [World.cell?_of_block (hold x.block hlt hno)]; exact hc⟩
    rcases h with h | h
    · exact hx h.1
    · rcases hk with h2 | h2
      · exact hno (by rw [h]; exact h2)
      · omega
  have hkl : k < w'.heap.size := (Array.getElem?_eq_some_iff.1 hheap).1
  have hown : ∀ j, ownsB g' [] [(e, ⟨T, sz, xs, true⟩)] j → j = k := by
    intro j hj
    rcases hj with ⟨i, y, hy, _⟩ | ⟨i, y, hy, he⟩
    · cases hy
    · simp only [lk] at hy
      split at hy
      · rename_i hie
        subst hie
        rw [hρ] at he
        have : k = j := by simpa [Value.ownBlock] using he
        exact this.symm
      · cases hy
  have hownk : ownsB g' [] [(e, ⟨T, sz, xs, true⟩)] k := .inr ⟨e, _, by simp [lk]; rfl, by rw [hρ]; rfl⟩
  have hsz : n * sz ≤ cap * sz := Nat.mul_le_mul_right _ hcap
  refine ⟨g', rfl, ?_⟩
  refine { res := (show _ = g'.ρ e from hρ.symm), hold := ?_, rho := fun j => ?_, lim := fun x hx => ?_, below := ⟨hos, htape, hout, hsize, hold⟩, base := fun x a1 a2 => .inl ⟨a1, a2⟩, mu := fun x hx => ?_, own := fun j hj => by rw [hown j hj]; exact hk, fixed := fun i x hx => by cases hx }
  · refine ⟨fun i x hx => (by cases hx), fun i j x y hx => (by cases hx), fun j y hy => ?_, fun j x i y hx hy => (by cases hy), fun j x j' x' b hx hx' hne hb => ?_⟩
    · simp only [lk] at hy
      split at hy
      · rename_i hj
        cases hy
        subst hj
        refine ⟨cur.toList.take (n * sz), ?_, hz, fun i m y p u a1 a2 a3 => ?_, fun b hb => ?_⟩
        · rw [hρ]
          exact ⟨by rw [List.length_take, Array.length_toList, hcur, ← hn]; show min (n * sz) (cap * sz) = n * sz; omega, .inr ⟨k, cap, cur, by rw [hn], Nat.zero_le _, hheap, by rw [← hn]; exact hcap, hm, hcur, by rw [hn]⟩⟩
        · refine RRel.mono (hv i m y p u a1 a2 ?_) hkeep
          have : i * sz + m < n * sz := by
            have := (List.getElem?_eq_some_iff.1 a3).1
            rw [List.length_take] at this
            have h2 : i * sz + m < min (n * sz) cur.toList.length := this
            omega
          have a3 : (cur.toList.take (n * sz))[i * sz + m]? = some u := a3
          rw [List.getElem?_take_of_lt this, Array.getElem?_toList] at a3
          exact a3
        · rw [hρ] at hb
          have : k = b := by simpa [Value.ownBlock] using hb
          subst this
          exact ⟨fun off _ => ⟨fun _ => rfl, fun _ => .inr rfl⟩, fun off _ => .inr rfl⟩
      · cases hy
    · simp only [lk] at hx hx'
      split at hx <;> split at hx'
      · rename_i h1 h2; exact absurd (h1.trans h2.symm) hne
      · cases hx'
      · cases hx
      · cases hx
  · show (if j = e then _ else g.ρ j).oneCell' = true
    split
    · rfl
    · exact hrho j
  · rcases hx with hx | hx
    · exact Nat.lt_of_lt_of_le (hlim x hx.1) hsize
    · show x.block < w'.heap.size
      rw [hx]; exact hkl
  · rcases hx with hx | hx
    · exact .inl hx.1
    · exact .inr (by rw [hx]; exact hownk)

/-- What a row is in memory: nothing, or cells. -/
theorem Hold.row_mem {r0 : List (Nat × Rw)} (hH : Hold g [] r0) {e : Nat} {r : Rw} (hr : lk e r0 = some r) :
    (g.ρ e = .slice none 0 0 ∧ r.xs = []) ∨ ∃ k cap cur, g.ρ e = .slice (some ⟨k, 0, none⟩) r.xs.length cap ∧ g.w.heap[k]? = some (.cells cur r.T (0, 0)) ∧ r.xs.length ≤ cap ∧ cap ≤ maxLen ∧ cur.size = cap * r.sz ∧ ownsB g [] r0 k ∧
      (∀ y ∈ r.xs, y.cells.length = r.sz) ∧ ∀ (i j : Nat) y p u, r.xs[i]? = some y → y.cells[j]? = some p → cur[i * r.sz + j]? = some u → RRel g.w g.mu p u := by
  obtain ⟨cs, hown, hz, hcs, _⟩ := hH.rows e r hr
  rcases hown.2 with ⟨h0, h1⟩ | ⟨k, cap, cur, hval, _, hheap, hn, hm, hcur, htake⟩
  · exact .inl ⟨h0, List.eq_nil_of_length_eq_zero h1⟩
  · refine .inr ⟨k, cap, cur, hval, hheap, hn, hm, hcur, .inr ⟨e, r, hr, by rw [hval]; rfl⟩, hz, fun i j y p u a1 a2 a3 => hcs i j y p u a1 a2 ?_⟩
    have hi := (List.getElem?_eq_some_iff.1 a1).1
    have hj := (List.getElem?_eq_some_iff.1 a2).1
    rw [hz y (List.mem_of_getElem? a1)] at hj
    have hb : i * r.sz + j < r.xs.length * r.sz := by
      have : (i + 1) * r.sz ≤ r.xs.length * r.sz := Nat.mul_le_mul_right _ hi
      rw [Nat.add_mul] at this
      omega
    rw [← htake, List.getElem?_take_of_lt hb, Array.getElem?_toList]
    exact a3
end Go.Mh
