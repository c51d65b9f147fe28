/- Arguments as they are read from memory, as pure values; a law's statement out of its function's contract. For any seat: Ytlflomhehhcfnaa stands for its name, Try for its alias. -/
import Derived.Test.YtlflomhehhcfnaaRows
import Derived.Test.YtlflomhehhcfnaaMhO
import Derived.WalkKit
import Derived.ProofKit
import Derived.OpenShut
import Derived.JoinedCond
import Derived.Deep.Slices
import Derived.Deep.Strs
import Derived.Carry
namespace Go.Proofs.Ytlflomhehhcfnaa
open Go Go.Mh Go.ChangeShapes Go.WideShapes Go.ChangeAt Go.RowKit
open Go.ChangeMaps (open_string)

theorem bulk_one {H : Type} (d : DataW H) : 1 ≤ Rows.uptoBulk d := by
  cases d with
  | lit l => cases l <;> simp [Rows.uptoBulk]
  | nil => simp [Rows.uptoBulk]
  | ptr d => simp [Rows.uptoBulk]
  | slice elems spare => simp [Rows.uptoBulk]
  | agg parts => simp [Rows.uptoBulk]
  | iface t d => simp [Rows.uptoBulk]
  | map entries => simp [Rows.uptoBulk]
  | held h => simp [Rows.uptoBulk]

abbrev nomu : Addr → Prop := fun _ => False
/-- Cells that stand for pure values. -/
def RC (W : World) (l : List PV) (cs : List Value) : Prop := cs.length = l.length ∧ ∀ (i : Nat) p v, l[i]? = some p → cs[i]? = some v → RRel W nomu p v
theorem RC.append {W : World} {l m : List PV} {cs ds : List Value} (h1 : RC W l cs) (h2 : RC W m ds) : RC W (l ++ m) (cs ++ ds) := by
  refine ⟨by simp [h1.1, h2.1], fun i p v a b => ?_⟩
  by_cases hi : i < l.length
  · rw [List.getElem?_append_left hi] at a
    rw [List.getElem?_append_left (by rw [h1.1]; exact hi)] at b
    exact h1.2 i p v a b
  · rw [List.getElem?_append_right (by omega)] at a
    rw [List.getElem?_append_right (by rw [h1.1]; omega), h1.1] at b
    exact h2.2 _ p v a b
theorem RC.one {W : World} {p : PV} {v : Value} (h : RRel W nomu p v) : RC W [p] [v] := by
  refine ⟨rfl, fun i q u a b => ?_⟩
  cases i with
  | zero => simp at a b; subst a; subst b; exact h
  | succ i => simp at a

/-- What a type's cells read as: a value, its cells, how great it is, what is known of it. -/
def Rd (P : Program) (W : World) (T : TypeId) {A : Type} (cells : A → List PV) (sz : A → Nat) (ok : A → Prop) : Prop :=
  ∀ (H : Type) (enc : TypeId × Value → H) (base : Nat) (spare : Nat → Bool) (held : Bool) (fuel : Nat) (cs : List Value) (x : DataW H × List MemPlace),
    DataW.trod enc P W base spare held fuel T cs = some x → ∃ a : A, RC W (cells a) cs ∧ sz a ≤ Rows.uptoBulk x.1 ∧ ok a

variable {P : Program} {W : World}
theorem rd_int {T : TypeId} {k : IntKind} (h : P.underlying T = some (.int k)) : Rd P W T (fun n : Int => [PV.int k n]) (fun _ => 1) (fun n => (Lit.int k n).wf = true) := by
  intro H enc base spare held fuel cs x hx
  obtain ⟨n, rfl, rfl, hw⟩ := DataW.trod_int h hx
  exact ⟨n, RC.one (.int k n), bulk_one _, hw⟩
theorem rd_bool {T : TypeId} (h : P.underlying T = some .bool) : Rd P W T (fun b : Bool => [PV.bool b]) (fun _ => 1) (fun _ => True) := by
  intro H enc base spare held fuel cs x hx
  obtain ⟨b, rfl, rfl⟩ := DataW.trod_bool h hx
  exact ⟨b, RC.one (.bool b), bulk_one _, trivial⟩
theorem rd_str {T : TypeId} (h : P.underlying T = some .string) : Rd P W T (fun s : ByteArray => [PV.str s]) (fun s => s.size + 1) (fun _ => True) := by
  intro H enc base spare held fuel cs x hx
  obtain ⟨s, rfl, rfl, hs⟩ := DataW.trod_string h hx
  refine ⟨s, RC.one (.str s), ?_, trivial⟩
  simp only [Rows.uptoBulk, ba_size]
  exact Nat.le_refl _

theorem bulk_map {H : Type} : ∀ (l : List (DataW H × List MemPlace)), Rows.uptoBulkAll (l.map (·.1)) = (l.map fun y => Rows.uptoBulk y.1).sum
  | [] => rfl
  | y :: l => by simp only [List.map_cons, Rows.uptoBulkAll, List.sum_cons, bulk_map l]

theorem rd_struct2 {T : TypeId} {f0 f1 : Field} (ht : P.underlying T = some (.struct #[f0, f1])) {A B : Type} {c0 : A → List PV} {c1 : B → List PV} {z0 : A → Nat} {z1 : B → Nat} {o0 : A → Prop} {o1 : B → Prop} {n0 n1 : Nat}
    (h0 : Rd P W f0.type c0 z0 o0) (h1 : Rd P W f1.type c1 z1 o1) (e0 : P.cellsOf f0.type = n0) (e1 : P.cellsOf f1.type = n1) (hT : P.cellsOf T = n0 + n1) (q0 : f0.offset = 0) (q1 : f1.offset = n0) :
    Rd P W T (fun a : A × B => c0 a.1 ++ c1 a.2) (fun a => z0 a.1 + z1 a.2 + 1) (fun a => o0 a.1 ∧ o1 a.2) := by
  intro H enc base spare held fuel cs x hx
  obtain ⟨y0, y1, n, rfl, hl, k0, k1⟩ := trod_struct2 ht hx
  obtain ⟨a, ra, za, oa⟩ := h0 H enc base spare held n _ _ k0
  obtain ⟨b, rb, zb, ob⟩ := h1 H enc base spare held n _ _ k1
  rw [hT] at hl
  refine ⟨(a, b), ?_, ?_, oa, ob⟩
  · have := ra.append rb
    have e : cs = ((cs.drop f0.offset).take (P.cellsOf f0.type)) ++ ((cs.drop f1.offset).take (P.cellsOf f1.type)) := by
      rw [q0, q1, e0, e1, List.drop_zero, List.take_of_length_le (l := cs.drop n0) (by rw [List.length_drop]; omega), List.take_append_drop]
    rw [e]; exact this
  · simp only [Rows.uptoBulk, Rows.uptoBulkAll]; omega
theorem rd_struct3 {T : TypeId} {f0 f1 f2 : Field} (ht : P.underlying T = some (.struct #[f0, f1, f2])) {A B C : Type} {c0 : A → List PV} {c1 : B → List PV} {c2 : C → List PV} {z0 : A → Nat} {z1 : B → Nat} {z2 : C → Nat} {o0 : A → Prop} {o1 : B → Prop} {o2 : C → Prop} {n0 n1 n2 : Nat}
    (h0 : Rd P W f0.type c0 z0 o0) (h1 : Rd P W f1.type c1 z1 o1) (h2 : Rd P W f2.type c2 z2 o2) (e0 : P.cellsOf f0.type = n0) (e1 : P.cellsOf f1.type = n1) (e2 : P.cellsOf f2.type = n2) (hT : P.cellsOf T = n0 + n1 + n2)
    (q0 : f0.offset = 0) (q1 : f1.offset = n0) (q2 : f2.offset = n0 + n1) :
    Rd P W T (fun a : A × B × C => c0 a.1 ++ (c1 a.2.1 ++ c2 a.2.2)) (fun a => z0 a.1 + z1 a.2.1 + z2 a.2.2 + 1) (fun a => o0 a.1 ∧ o1 a.2.1 ∧ o2 a.2.2) := by
  intro H enc base spare held fuel cs x hx
  obtain ⟨y0, y1, y2, n, rfl, hl, k0, k1, k2⟩ := Go.Deep.trod_struct3 ht hx
  obtain ⟨a, ra, za, oa⟩ := h0 H enc base spare held n _ _ k0
  obtain ⟨b, rb, zb, ob⟩ := h1 H enc base spare held n _ _ k1
  obtain ⟨c, rc, zc, oc⟩ := h2 H enc base spare held n _ _ k2
  rw [hT] at hl
  refine ⟨(a, b, c), ?_, ?_, oa, ob, oc⟩
  · have := ra.append (rb.append rc)
    have e : cs = ((cs.drop f0.offset).take (P.cellsOf f0.type)) ++ (((cs.drop f1.offset).take (P.cellsOf f1.type)) ++ ((cs.drop f2.offset).take (P.cellsOf f2.type))) := by
      rw [q0, q1, q2, e0, e1, e2, List.drop_zero, List.take_of_length_le (l := cs.drop (n0 + n1)) (by rw [List.length_drop]; omega), ← List.drop_drop, List.take_append_drop, List.take_append_drop]
    rw [e]; exact this
  · simp only [Rows.uptoBulk, Rows.uptoBulkAll]; omega

/-- The same, told by another type of values. -/
theorem Rd.map {T : TypeId} {A B : Type} {c : A → List PV} {z : A → Nat} {o : A → Prop} {c' : B → List PV} {z' : B → Nat} {o' : B → Prop} (h : Rd P W T c z o) (f : A → B) (hc : ∀ a, c' (f a) = c a) (hz : ∀ a, z' (f a) ≤ z a) (ho : ∀ a, o a → o' (f a)) : Rd P W T c' z' o' := by
  intro H enc base spare held fuel cs x hx
  obtain ⟨a, h1, h2, h3⟩ := h H enc base spare held fuel cs x hx
  exact ⟨f a, by rw [hc]; exact h1, Nat.le_trans (hz a) h2, ho a h3⟩

theorem bulk_range {H : Type} (D : Nat → DataW H) : ∀ (n : Nat), Rows.uptoBulkAll ((List.range n).map D) = ((List.range n).map fun i => Rows.uptoBulk (D i)).sum := by
  have key : ∀ l : List Nat, Rows.uptoBulkAll (l.map D) = (l.map fun i => Rows.uptoBulk (D i)).sum := by
    intro l
    induction l with
    | nil => rfl
    | cons i l ih => simp only [List.map_cons, Rows.uptoBulkAll, List.sum_cons, ih]
  exact fun n => key _

theorem rd_slice {T e : TypeId} (ht : P.underlying T = some (.slice e)) {A : Type} [Inhabited A] {c : A → List PV} {z : A → Nat} {o : A → Prop} {n : Nat} {elem : A → PV} (he : Rd P W e c z o) (hn : P.cellsOf e = n) (hel : ∀ a, (elem a).cells = c a) :
    Rd P W T (fun l : List A => [PV.sl (l.map elem)]) (fun l => (l.map z).sum + 1) (fun l => ∀ a ∈ l, o a) := by
  intro H enc base spare held fuel cs x hx
  rcases Go.Deep.open_slice ht hx with ⟨rfl, rfl⟩ | ⟨ad, len, cap, m, n', D, Pl, rfl, hb, hl, hm, rfl, rfl, hi⟩
  · exact ⟨[], RC.one (.sl [] none 0 0 (fun _ _ => undef) (Nat.le_refl _) (Nat.zero_le _) (fun x h => by cases h) (fun h => absurd rfl h) (fun i j x pv h => by simp at h)), by simp [Rows.uptoBulk], fun a h => by cases h⟩
  · have hlm : len ≤ (if spare ad.block then cap else len) := by split <;> omega
    have hall : ∀ i, i < len → ∃ (a : A) (cs' : List Value), W.cells? base (ad.add (i * P.cellsOf e)) (P.cellsOf e) = some cs' ∧ RC W (c a) cs' ∧ z a ≤ Rows.uptoBulk (D i) ∧ o a := fun i hlt => by
      obtain ⟨cs', h1, h2⟩ := hi i (by omega)
      obtain ⟨a, h3, h4, h5⟩ := he H enc base spare held n' cs' _ h2
      exact ⟨a, cs', h1, h3, h4, h5⟩
    obtain ⟨f, hf⟩ := Go.Deep.choose_lt (p := fun i a => ∃ cs' : List Value, W.cells? base (ad.add (i * P.cellsOf e)) (P.cellsOf e) = some cs' ∧ RC W (c a) cs' ∧ z a ≤ Rows.uptoBulk (D i) ∧ o a) hall
    obtain ⟨g, hg⟩ := Go.Deep.choose_lt (p := fun i cs' => W.cells? base (ad.add (i * P.cellsOf e)) (P.cellsOf e) = some cs' ∧ RC W (c (f i)) cs' ∧ z (f i) ≤ Rows.uptoBulk (D i) ∧ o (f i)) hf
    rw [hn] at hg
    have hget : ∀ (i : Nat) (y : PV), (((List.range len).map f).map elem)[i]? = some y → i < len ∧ y = elem (f i) := fun i y hy => by
      simp only [List.getElem?_map, Option.map_eq_some_iff] at hy
      obtain ⟨b, ⟨j, hj, rfl⟩, rfl⟩ := hy
      have hlt := (List.getElem?_eq_some_iff.1 hj).1
      have hlt : i < len := by simpa using hlt
      rw [List.getElem?_range hlt] at hj
      cases hj
      exact ⟨hlt, rfl⟩
    have hlen : (((List.range len).map f).map elem).length = len := by simp
    refine ⟨(List.range len).map f, RC.one ?_, ?_, fun a ha => ?_⟩
    · have := RRel.sl (w := W) (mu := nomu) (((List.range len).map f).map elem) (some ad) cap n (fun i j => (g i).getD j undef) (by rw [hlen]; exact hl) hm (fun y hy => ?_) (fun _ => ⟨ad, rfl, fun i j hi hj => ?_⟩) (fun i j y p hy hp => ?_)
      · rw [hlen] at this; exact this
      · obtain ⟨i, hi'⟩ := List.getElem?_of_mem hy
        obtain ⟨hlt, rfl⟩ := hget i y hi'
        obtain ⟨h1, h2, _⟩ := hg i hlt
        rw [hel, ← h2.1]
        exact (World.cells?_some h1).2.1
      · rw [hlen] at hi
        obtain ⟨h1, h2, _⟩ := hg i hi
        obtain ⟨_, k2, k3⟩ := World.cells?_some h1
        refine ⟨fun h => h, ?_⟩
        have := k3 j hj
        rw [add_add'] at this
        rw [this]
        have hjl : j < (g i).length := by omega
        simp [hjl]
      · obtain ⟨hlt, rfl⟩ := hget i y hy
        obtain ⟨h1, h2, _⟩ := hg i hlt
        rw [hel] at hp
        have hjl : j < (g i).length := by rw [h2.1]; exact (List.getElem?_eq_some_iff.1 hp).1
        exact h2.2 j p _ hp (by simp [hjl])
    · have h1 : Rows.uptoBulkAll ((List.range len).map D) = ((List.range len).map fun i => Rows.uptoBulk (D i)).sum := bulk_range D len
      have h2 : (((List.range len).map f).map z).sum ≤ ((List.range len).map fun i => Rows.uptoBulk (D i)).sum := by
        have key : ∀ l : List Nat, (∀ i ∈ l, i < len) → ((l.map f).map z).sum ≤ (l.map fun i => Rows.uptoBulk (D i)).sum := by
          intro l
          induction l with
          | nil => intro _; simp
          | cons i l ih =>
            intro hl
            have h3 := ih fun j hj => hl j (List.mem_cons_of_mem _ hj)
            have h4 := (hg i (hl i List.mem_cons_self)).2.2.1
            simp only [List.map_cons, List.sum_cons]
            omega
        exact key _ fun i hi => List.mem_range.1 hi
      show (((List.range len).map f).map z).sum + 1 ≤ Rows.uptoBulk (.slice _ _)
      simp only [Rows.uptoBulk]
      omega
    · obtain ⟨i, hi', rfl⟩ := List.mem_map.1 ha
      exact (hg i (List.mem_range.1 hi')).2.2.2

/-- A struct's value. -/
theorem agg_of_RC {l : List PV} {cs : Array Value} (h : RC W l cs.toList) : RRel W nomu (.agg l) (.agg cs) := by
  have := RRel.agg (w := W) (mu := nomu) l cs.toList h.1 h.2
  simpa using this

/-- What a law's statement asks behind its call. -/
theorem law_post {H : Type} {enc : TypeId × Value → H} {f : Func} {s : ChangeSpec} {W' : World} {args : Array Value} {ds : List (DataW H)} {before p : List MemPlace} (hvars : s.vars = [])
    (hW : DataW.Whole enc P f.params.toList s.vars false W args.toList ds [] before) (hres : DataW.TrodAll enc P W' W.heap.size (fun _ => false) false f.resultTypes.toList ((Value.bool true).resultList f.resultTypes.size) (s.fn H (ds ++ [])).results [])
    (hargs : DataW.TrodAll enc P W' 0 (fun b => decide (b < W.heap.size)) true f.params.toList args.toList (s.fn H (ds ++ [])).args p) (hv2 : (s.fn H (ds ++ [])).vars = []) (hb : Below W.heap.size W W') :
    s.post enc P f false true false false W args (.bool true) W' :=
  ⟨ds, [], before, [], p, [], hW, hres, hargs, by rw [hvars, hv2]; rfl, hb.frame _, fun h => by cases h⟩
end Go.Proofs.Ytlflomhehhcfnaa
