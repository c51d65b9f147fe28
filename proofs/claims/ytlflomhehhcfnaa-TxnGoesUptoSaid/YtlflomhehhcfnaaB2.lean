/- GreatOps, SameOps, Same -/
import Derived.Test.YtlflomhehhcfnaaB1
namespace Go.Proofs.Ytlflomhehhcfnaa
open Go Go.Mh

def opSz (o : OpS) : Nat := 10 + o.key.size + o.val.size
def sumOps (l : List OpS) : Nat := (l.map opSz).sum
/-- What GreatOps has counted behind i operations. -/
theorem sum_take {l : List OpS} {i : Nat} {x : OpS} (hx : l[i]? = some x) : sumOps (l.take (i + 1)) = sumOps (l.take i) + opSz x := by
  rw [List.take_add_one, hx]; simp [sumOps]
theorem sum_le (l : List OpS) (i : Nat) : sumOps (l.take i) ≤ sumOps l := by
  have h : l = l.take i ++ l.drop i := (List.take_append_drop i l).symm
  have : sumOps l = sumOps (l.take i) + sumOps (l.drop i) := by
    conv => lhs; rw [h]
    simp only [sumOps, List.map_append, List.sum_append]
  omega
def great (l : List OpS) : Bool := decide (100000 < sumOps l)

structure Sm (l : List OpS) : Prop where
  len : l.length ≤ 1048576
  el : ∀ o ∈ l, o.key.size ≤ 1048576 ∧ o.val.size ≤ 1048576
theorem Sm.sum {l : List OpS} (h : ∀ o ∈ l, o.key.size ≤ 1048576 ∧ o.val.size ≤ 1048576) : sumOps l ≤ l.length * 2097162 := by
  induction l with
  | nil => simp [sumOps]
  | cons o l ih =>
    have h1 := h o List.mem_cons_self
    have h2 := ih fun x hx => h x (List.mem_cons_of_mem _ hx)
    simp only [sumOps, List.map_cons, List.sum_cons, List.length_cons, opSz] at h2 ⊢
    omega

set_option maxHeartbeats 2000000 in
theorem great_meets (l : List OpS) (hs : Sm l) : Meets Try.prog 5 [opsPV l] (.bool (great l)) := by
  refine W_fun pOK Try.func5 rfl rfl (Nat.le_of_ble_eq_true rfl) fun c _ => ?_
  simp [OpS.pv, opsPV, Try.f5, go_sem]
  refine W_loop pOK (fun i : Nat => { n := 33, t := [(4, .int .i64 i), (3, .int .i64 (sumOps (l.take i))), (0, opsPV l), (2, .bool false)], b := [], r := [] })
    (fun i => i ≤ l.length) (fun i => l.length - i) 0 (Nat.zero_le _) (Sub.mk' rfl (by simp [subL, lk, opsPV, sumOps]) trivial trivial) fun i hi _ B hB => ?_
  have hlen := hs.len
  rcases Nat.lt_or_ge i l.length with hlt | hge
  · have hx : l[i]? = some l[i] := List.getElem?_eq_getElem hlt
    have hw : IntKind.i64.wrap ((i : Int) + 1) = i + 1 := wrapI (by omega) (by omega)
    have hel := hs.el _ (List.getElem_mem hlt)
    have hsum := Sm.sum (l := l.take i) fun o ho => hs.el o (List.mem_of_mem_take ho)
    have htl : (l.take i).length ≤ 1048576 := by rw [List.length_take]; omega
    have hst := sum_take hx
    have hw1 : IntKind.i64.wrap (10 + (l[i].key.size : Int)) = 10 + l[i].key.size := wrapI (by omega) (by omega)
    have hw2 : IntKind.i64.wrap (10 + (l[i].key.size : Int) + l[i].val.size) = 10 + l[i].key.size + l[i].val.size := wrapI (by omega) (by omega)
    have hw3 : IntKind.i64.wrap ((sumOps (l.take i) : Int) + (10 + l[i].key.size + l[i].val.size)) = sumOps (l.take (i + 1)) := by
      rw [wrapI (by omega) (by omega), hst, opSz]; omega
    simp [OpS.pv, opsPV, go_sem, hlt, Nat.not_le.2 hlt, hw, hw1, hw2, hw3]
    refine ⟨fun h => ⟨by kernel_rfl, hB (i + 1) _ hlt (by omega) (Sub.mk' rfl ?_ trivial trivial)⟩, fun h => ?_⟩
    · simp [subL, lk, opsPV]
    · have := sum_le l i
      simp only [great]
      rw [decide_eq_true (by omega), decide_eq_true (by omega)]
  · have e : i = l.length := by omega
    subst e
    simp [OpS.pv, opsPV, go_sem]
    rw [great]
    exact decide_eq_decide.2 (by omega)

theorem eq_of_all {α : Type} {a b : List α} (hl : a.length = b.length) (h : ∀ (j : Nat) x y, j < a.length → a[j]? = some x → b[j]? = some y → x = y) : a = b := by
  refine List.ext_getElem hl fun j h1 h2 => ?_
  exact h j _ _ h1 (List.getElem?_eq_getElem h1) (List.getElem?_eq_getElem h2)

set_option maxHeartbeats 2000000 in
theorem same_meets (a b : List OpS) (ha : a.length ≤ 1048576) : Meets Try.prog 22 [opsPV a, opsPV b] (.bool (decide (a = b))) := by
  refine W_fun pOK Try.func22 rfl rfl (Nat.le_of_ble_eq_true rfl) fun c _ => ?_
  simp [OpS.pv, opsPV, Try.f22, go_sem]
  refine ⟨fun h hab => h (by rw [hab]), fun h => ?_⟩
  refine W_loop pOK (fun i : Nat => { n := 26, t := [(5, .int .i64 i), (0, opsPV a), (1, opsPV b), (4, .bool false)], b := [], r := [] })
    (fun i => i ≤ a.length ∧ ∀ j x y, j < i → a[j]? = some x → b[j]? = some y → x = y) (fun i => a.length - i) 0 ⟨Nat.zero_le _, fun j x y h => by omega⟩ (Sub.mk' rfl (by simp [subL, lk, opsPV]) trivial trivial) fun i ⟨hi, hall⟩ _ B hB => ?_
  rcases Nat.lt_or_ge i a.length with hlt | hge
  · have hx : a[i]? = some a[i] := List.getElem?_eq_getElem hlt
    have hlb : i < b.length := by omega
    have hy : b[i]? = some b[i] := List.getElem?_eq_getElem hlb
    have hw : IntKind.i64.wrap ((i : Int) + 1) = i + 1 := wrapI (by omega) (by omega)
    simp [OpS.pv, opsPV, go_sem, hlt, hlb, Nat.not_le.2 hlt, Nat.not_le.2 hlb, hw, tl_iff]
    refine ⟨by kernel_rfl, fun h hab => ?_, fun h1 h2 h3 => hB (i + 1) _ ⟨hlt, fun j x y hj hjx hjy => ?_⟩ (by omega) (Sub.mk' rfl ?_ trivial trivial)⟩
    · subst hab
      simp at h
    · rcases Nat.lt_or_ge j i with h | h
      · exact hall j x y h hjx hjy
      · have : j = i := by omega
        subst this
        rw [hx] at hjx; rw [hy] at hjy
        cases hjx; cases hjy
        revert h1 h2 h3
        generalize a[j] = p
        generalize b[j] = q
        cases p; cases q
        simp only
        intro h1 h2 h3
        rw [h1, h2, h3]
    · simp [subL, lk, opsPV]
  · have e : i = a.length := by omega
    subst e
    simp [OpS.pv, opsPV, go_sem]
    exact eq_of_all (by omega) hall

theorem sameT_meets (a b : TxnS) (ha : a.ops.length ≤ 1048576) : Meets Try.prog 9 [a.pv, b.pv] (.bool (decide (a.seq = b.seq ∧ a.ops = b.ops))) := by
  refine W_fun pOK Try.func9 rfl rfl (Nat.le_of_ble_eq_true rfl) fun c _ => ?_
  simp [TxnS.pv, opsPV, Try.f9, go_sem]
  refine ⟨fun h => by simp [h], fun h => ?_⟩
  refine ⟨h, WC_meets pOK (same_meets a.ops b.ops ha) ?_⟩
  simp [TxnS.pv, opsPV, Try.f9, go_sem, h]
end Go.Proofs.Ytlflomhehhcfnaa
