/- The binary search, txn.find -/
import Derived.Test.YtlflomhehhcfnaaO
namespace Go.Proofs.Ytlflomhehhcfnaa
open Go Go.Mh

theorem find1_meets (o : OpS) (s : ByteArray) : Meets Try.prog 40 [o.pv, .str s] (.int .i64 (cmpS o.key s)) := by
  refine W_fun pOK Try.func40 rfl rfl (Nat.le_of_ble_eq_true rfl) fun c _ => ?_
  simp [OpS.pv, Try.f40, go_sem]
  refine WC_meets pOK (compare_meets o.key s) ?_
  simp [OpS.pv, go_sem]

theorem cmpS_neg {a b : ByteArray} : cmpS a b < 0 ↔ klt a b = true := by
  rw [cmpS, klt]
  split
  · rename_i h; simp [h]
  · rename_i h; split <;> simp [h]
theorem cmpS_zero {a b : ByteArray} : cmpS a b = 0 ↔ a = b := by
  rw [cmpS]
  split
  · rename_i h
    refine ⟨fun h => (by omega), fun e => ?_⟩
    rw [e] at h
    have := klt_irrefl b
    rw [klt, h] at this; cases this
  · split
    · rename_i h; exact ⟨fun _ => tl_iff.1 h, fun _ => rfl⟩
    · rename_i h; exact ⟨fun h => (by omega), fun e => absurd (by rw [e]) h⟩

def foundS (l : List OpS) (s : ByteArray) : Bool := match l[below l s]? with
  | some x => decide (x.key = s)
  | none => false

set_option maxHeartbeats 4000000 in
theorem search_meets (l : List OpS) (s : ByteArray) (hl : l.length ≤ 1048576) (hA : Asc l) : Meets Try.prog 39 [opsPV l, .str s, .clo 40 []] (.tup [.int .i64 (below l s), .bool (foundS l s)]) := by
  refine W_fun pOK Try.func39 rfl rfl (Nat.le_of_ble_eq_true rfl) fun c _ => ?_
  simp [OpS.pv, opsPV, Try.f39, go_sem]
  refine W_loop pOK (fun p : Nat × Nat => { n := 49, t := [(10, .int .i64 p.2), (9, .int .i64 p.1), (8, .int .i64 l.length), (7, .bool false), (6, .int .i64 0), (0, opsPV l), (1, .str s), (2, .clo 40 [])], b := [], r := [] })
    (fun p => p.1 ≤ p.2 ∧ p.2 ≤ l.length ∧ (∀ (j : Nat) x, j < p.1 → l[j]? = some x → klt x.key s = true) ∧ ∀ (j : Nat) x, p.2 ≤ j → l[j]? = some x → klt x.key s = false)
    (fun p => p.2 - p.1) (0, l.length) ⟨Nat.zero_le _, Nat.le_refl _, fun j x h => by omega, fun j x h hj => by have := (List.getElem?_eq_some_iff.1 hj).1; omega⟩
    (Sub.mk' rfl (by simp [subL, lk, opsPV]) trivial trivial) fun p hp _ B hB => ?_
  obtain ⟨i, j⟩ := p
  obtain ⟨hij, hj, hlo, hhi⟩ := hp
  simp only at hij hj hlo hhi
  rcases Nat.lt_or_ge i j with hlt | hge
  · have hI : (i : Int) < j := by omega
    obtain ⟨m, hm⟩ : ∃ m : Nat, m = (i + j) / 2 := ⟨_, rfl⟩
    have hm1 : m < l.length := by omega
    have hx : l[m]? = some l[m] := List.getElem?_eq_getElem hm1
    have hw1 : IntKind.i64.wrap ((i : Int) + j) = i + j := wrapI (by omega) (by omega)
    have hw2 : IntKind.u64.wrap ((i : Int) + j) = i + j := by unfold IntKind.wrap; simp [IntKind.bits]; omega
    have hw3 : ((i : Int) + j).fdiv 2 = m := by rw [Int.fdiv_eq_ediv_of_nonneg _ (by omega)]; omega
    have hw4 : IntKind.i64.wrap (m : Int) = m := wrapI (by omega) (by omega)
    have hw5 : IntKind.i64.wrap ((m : Int) + 1) = m + 1 := wrapI (by omega) (by omega)
    have hmin : min 1 IntKind.u64.bits = 1 := rfl
    simp [OpS.pv, opsPV, go_sem, hI, hlt, hw1, hw2, hw3, hw4, hw5, hm1]
    refine WC_meets pOK (find1_meets l[m] s) ?_
    simp [OpS.pv, opsPV, go_sem, hI, hw1, hw2, hw3, hw4, hw5, hm1]
    refine ⟨fun h => hB (m + 1, j) _ ⟨by simp only; omega, hj, fun k x hk hkx => ?_, hhi⟩ (by simp only; omega) (Sub.mk' rfl (by simp [subL, lk, opsPV]) trivial trivial),
      fun h => hB (i, m) _ ⟨by simp only; omega, by simp only; omega, hlo, fun k x hk hkx => ?_⟩ (by simp only; omega) (Sub.mk' rfl (by simp [subL, lk, opsPV]) trivial trivial)⟩
    · have h1 := cmpS_neg.1 h
      simp only at hk
      rcases Nat.lt_or_ge k m with h2 | h2
      · exact klt_trans (hA.lt h2 hkx hx) h1
      · have : k = m := by omega
        subst this
        rw [hx] at hkx; cases hkx; exact h1
    · have h1 : klt l[m].key s = false := by
        rw [Bool.eq_false_iff]; intro h2; have := cmpS_neg.2 h2; omega
      simp only at hk
      rcases Nat.lt_or_ge m k with h2 | h2
      · rw [Bool.eq_false_iff]
        intro h3
        have := klt_trans (hA.lt h2 hx hkx) h3
        rw [h1] at this; cases this
      · have : k = m := by omega
        subst this
        rw [hx] at hkx; cases hkx; exact h1
  · have e : j = i := by omega
    subst e
    have hbe : below l s = j := below_eq hj hlo (fun x hx => hhi j x (Nat.le_refl _) hx)
    rcases Nat.lt_or_ge j l.length with h1 | h1
    · have hx : l[j]? = some l[j] := List.getElem?_eq_getElem h1
      have hf : foundS l s = decide (l[j].key = s) := by simp [foundS, hbe, hx]
      simp [OpS.pv, opsPV, go_sem, h1]
      refine WC_meets pOK (find1_meets l[j] s) ?_
      simp [OpS.pv, opsPV, go_sem, h1, hbe, hf]
      rw [← decide_eq_decide.2 cmpS_zero]
      rfl
    · have hf : foundS l s = false := by simp [foundS, hbe, List.getElem?_eq_none h1]
      simp [OpS.pv, opsPV, go_sem, Nat.not_lt.2 h1, hbe, hf]

theorem find_meets (t : TxnS) (s : ByteArray) (hl : t.ops.length ≤ 1048576) (hA : Asc t.ops) : Meets Try.prog 31 [t.pv, .str s] (.tup [.int .i64 (below t.ops s), .bool (foundS t.ops s)]) := by
  refine W_fun pOK Try.func31 rfl rfl (Nat.le_of_ble_eq_true rfl) fun c _ => ?_
  simp [TxnS.pv, opsPV, Try.f31, go_sem]
  refine WC_meets pOK (search_meets t.ops s hl hA) ?_
  simp [go_sem]

end Go.Proofs.Ytlflomhehhcfnaa
