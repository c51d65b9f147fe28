/- ref21.May, ref21.Check, txn.Check -/
import Derived.Test.YtlflomhehhcfnaaB2
namespace Go.Proofs.Ytlflomhehhcfnaa
open Go Go.Mh

def kle (a b : ByteArray) : Bool := Op.bytesLess a.toList b.toList || a.toList == b.toList
def Asc (l : List OpS) : Prop := ∀ (i : Nat) x y, l[i]? = some x → l[i + 1]? = some y → kle y.key x.key = false
def mayT (t : TxnS) : Prop := (∀ (i : Nat) x, t.ops[i]? = some x → mayS x = true) ∧ Asc t.ops ∧ 0 ≤ t.seq ∧ t.seq ≤ 1099511627776 ∧ t.ops.length ≤ 64
noncomputable def mayB (t : TxnS) : Bool := @decide (mayT t) (Classical.propDecidable _)
theorem mayB_false {t : TxnS} (h : ¬ mayT t) : mayB t = false := @decide_eq_false _ (Classical.propDecidable _) h
theorem mayB_true {t : TxnS} (h : mayT t) : mayB t = true := @decide_eq_true _ (Classical.propDecidable _) h
theorem of_mayB {t : TxnS} (h : mayB t = true) : mayT t := @of_decide_eq_true _ (Classical.propDecidable _) h

set_option maxHeartbeats 2000000 in
theorem refMay_meets (t : TxnS) (hl : t.ops.length ≤ 1048576) : Meets Try.prog 21 [t.pv] (.bool (mayB t)) := by
  refine W_fun pOK Try.func21 rfl rfl (Nat.le_of_ble_eq_true rfl) fun c _ => ?_
  simp [OpS.pv, TxnS.pv, opsPV, Try.f21, go_sem]
  refine W_loop pOK (fun i : Nat => { n := 52, t := [(3, .int .i64 i), (1, .ref 1 0), (2, .bool false)], b := [(1, ⟨24, [.int .i64 t.seq, opsPV t.ops]⟩)], r := [] })
    (fun i => i ≤ t.ops.length ∧ (∀ (j : Nat) x, j < i → t.ops[j]? = some x → mayS x = true) ∧ ∀ (j : Nat) x y, j + 1 < i → t.ops[j]? = some x → t.ops[j + 1]? = some y → kle y.key x.key = false)
    (fun i => t.ops.length - i) 0 ⟨Nat.zero_le _, fun j x h => by omega, fun j x y h => by omega⟩ (Sub.mk' rfl (by simp [subL, lk]) (by simp [subL, lk, opsPV]) trivial) fun i ⟨hi, hm, ha⟩ _ B hB => ?_
  rcases Nat.lt_or_ge i t.ops.length with hlt | hge
  · have hx : t.ops[i]? = some t.ops[i] := List.getElem?_eq_getElem hlt
    have hw : IntKind.i64.wrap ((i : Int) + 1) = i + 1 := wrapI (by omega) (by omega)
    have hw2 : IntKind.i64.wrap ((i : Int) - 1) = i - 1 := wrapI (by omega) (by omega)
    rcases i with _ | m
    · simp [OpS.pv, TxnS.pv, opsPV, go_sem, hlt, Nat.not_le.2 hlt]
      refine ⟨by kernel_rfl, WQC_meets (op_meets t.ops[0]) rfl ?_⟩
      simp [OpS.pv, TxnS.pv, opsPV, go_sem, hlt, Nat.not_le.2 hlt, IntKind.wrap_i64]
      refine ⟨fun h => (mayB_false fun hm => ?_).symm ▸ rfl, fun h => hB 1 _ ⟨hlt, fun j x hj hjx => ?_, fun j x y hj => by omega⟩ (by omega) (Sub.mk' rfl (by simp [subL, lk]) (by simp [subL, lk, opsPV]) trivial)⟩
      · rw [hm.1 0 _ hx] at h; cases h
      · have : j = 0 := by omega
        subst this
        rw [hx] at hjx; cases hjx; exact h
    · have hm1 : m < t.ops.length := by omega
      have hI : (m : Int) + 1 < t.ops.length := by omega
      have hI0 : (0 : Int) < (m : Int) + 1 := by omega
      have hI1 : (0 : Int) ≤ (m : Int) + 1 := by omega
      have hy : t.ops[m]? = some t.ops[m] := List.getElem?_eq_getElem hm1
      have hw3 : IntKind.i64.wrap (m : Int) = m := by rw [wrapI] <;> omega
      have hw4 : IntKind.i64.wrap ((m : Int) + 1 + 1) = m + 1 + 1 := wrapI (by omega) (by omega)
      have hI2 : (m : Int) < t.ops.length := by omega
      simp [OpS.pv, TxnS.pv, opsPV, go_sem, hlt, hm1, hw3, hw4, hI, hI0, hI1, Int.not_le.2 hI]
      refine ⟨by kernel_rfl, WQC_meets (op_meets t.ops[m + 1]) rfl ?_⟩
      simp [OpS.pv, TxnS.pv, opsPV, go_sem, hlt, hm1, hw3, hw4, hI, hI0, hI1, Int.not_le.2 hI, hI2]
      refine ⟨fun h => (mayB_false fun hq => ?_).symm ▸ rfl, fun h1 h2 h3 => hB (m + 2) _ ⟨hlt, fun j x hj hjx => ?_, fun j x y hj hjx hjy => ?_⟩ (by omega) (Sub.mk' rfl (by simp [subL, lk]; omega) (by simp [subL, lk, opsPV]) trivial)⟩
      · rcases h with h | h
        · rw [hq.1 _ _ hx] at h; cases h
        · have := hq.2.1 m _ _ hy hx
          rw [kle] at this
          rcases h with h | h <;> simp [h] at this
      · rcases Nat.lt_or_ge j (m + 1) with h | h
        · exact hm j x h hjx
        · have : j = m + 1 := by omega
          subst this
          rw [hx] at hjx; cases hjx; exact h1
      · rcases Nat.lt_or_ge j m with h | h
        · exact ha j x y (by omega) hjx hjy
        · have : j = m := by omega
          subst this
          rw [hy] at hjx; rw [hx] at hjy; cases hjx; cases hjy
          simp [kle, h2, h3]
  · have e : i = t.ops.length := by omega
    subst e
    simp [OpS.pv, TxnS.pv, opsPV, go_sem]
    by_cases h : mayT t
    · obtain ⟨_, _, h3, h4, h5⟩ := id h
      rw [mayB_true h]
      simp [h3, h4]; omega
    · rw [mayB_false h]
      have : ¬ (0 ≤ t.seq ∧ t.seq ≤ 1099511627776 ∧ t.ops.length ≤ 64) := fun h2 => h ⟨fun j x hj => hm j x (List.getElem?_eq_some_iff.1 hj).1 hj, fun j x y h3 h4 => ha j x y (List.getElem?_eq_some_iff.1 h4).1 h3 h4, h2⟩
      simp; omega

theorem refCheck_meets (t : TxnS) (hl : t.ops.length ≤ 1048576) : Meets Try.prog 11 [t.pv] (.int .i64 (if mayB t = true then 0 else 8)) := by
  refine W_fun pOK Try.func11 rfl rfl (Nat.le_of_ble_eq_true rfl) fun c _ => ?_
  simp [OpS.pv, TxnS.pv, opsPV, Try.f11, go_sem]
  refine WC_meets pOK (refMay_meets t hl) ?_
  simp [OpS.pv, TxnS.pv, opsPV, go_sem]

/-- What txn.Check answers. -/
theorem mayT_iff (t : TxnS) : mayT t ↔ (0 ≤ t.seq ∧ t.seq ≤ 1099511627776 ∧ (0 < t.ops.length → opsCheck t.ops = 0)) ∧ Asc t.ops := by
  constructor
  · rintro ⟨h1, h2, h3, h4, h5⟩
    refine ⟨⟨h3, h4, fun h => ?_⟩, h2⟩
    rw [opsCheck, if_neg (by omega), if_pos]
    exact List.all_eq_true.2 fun x hx => by
      obtain ⟨j, hj⟩ := List.getElem?_of_mem hx
      exact h1 j x hj
  · rintro ⟨⟨h3, h4, h5⟩, h2⟩
    by_cases h : 0 < t.ops.length
    · have := h5 h
      rw [opsCheck] at this
      split at this
      · cases this
      · split at this
        · rename_i h6 h7
          exact ⟨fun j x hj => List.all_eq_true.1 h7 x (List.mem_of_getElem? hj), h2, h3, h4, by omega⟩
        · cases this
    · have h0 : t.ops = [] := List.eq_nil_of_length_eq_zero (by omega)
      exact ⟨fun j x hj => by rw [h0] at hj; simp at hj, h2, h3, h4, by omega⟩

set_option maxHeartbeats 2000000 in
theorem txnCheck_meets (t : TxnS) (hl : t.ops.length ≤ 1048576) : Meets Try.prog 10 [t.pv] (.int .i64 (if mayB t = true then 0 else 8)) := by
  refine W_fun pOK Try.func10 rfl rfl (Nat.le_of_ble_eq_true rfl) fun c _ => ?_
  by_cases h1 : t.seq < 0
  · rw [mayB_false (fun h => by have := h.2.2.1; omega)]
    simp [OpS.pv, TxnS.pv, opsPV, Try.f10, go_sem, h1]
  by_cases h2 : 1099511627776 < t.seq
  · rw [mayB_false (fun h => by have := h.2.2.2.1; omega)]
    simp [OpS.pv, TxnS.pv, opsPV, Try.f10, go_sem, h1, h2]
  have hne : ∀ (P : Prop), (t.ops.length = 0 → P) → ((0 : Int) < t.ops.length → P) → P := fun P a b => by
    by_cases h : t.ops.length = 0
    · exact a h
    · exact b (by omega)
  have hgo : (0 < t.ops.length → opsCheck t.ops = 0) → (¬ Asc t.ops → mayB t = false) ∧ (Asc t.ops → mayB t = true) := fun h =>
    ⟨fun ha => mayB_false fun hm => ha hm.2.1, fun ha => mayB_true ((mayT_iff t).2 ⟨⟨by omega, by omega, h⟩, ha⟩)⟩
  refine hne _ (fun h0 => ?_) (fun h0 => ?_)
  · have he : t.ops = [] := List.eq_nil_of_length_eq_zero h0
    have := (hgo (by omega)).2 (by rw [he]; intro i x y h; simp at h)
    rw [this]
    simp [OpS.pv, TxnS.pv, opsPV, Try.f10, go_sem, h1, h2, he]
    refine W_loop pOK (fun i : Nat => { n := 45, t := [(3, .int .i64 1), (1, .ref 1 0), (2, .int .i64 0)], b := [(1, ⟨24, [.int .i64 t.seq, .sl []]⟩)], r := [] })
      (fun i => True) (fun i => 0) 0 trivial (Sub.mk' rfl (by simp [subL, lk]) (by simp [subL, lk]) trivial) fun i _ _ B hB => ?_
    simp [OpS.pv, TxnS.pv, opsPV, go_sem]
  · have hnil : t.ops ≠ [] := fun h => by rw [h] at h0; simp at h0
    have h0n : 0 < t.ops.length := by omega
    simp [OpS.pv, TxnS.pv, opsPV, Try.f10, go_sem, h1, h2, h0, hnil, h0n]
    refine WC_meets pOK (check_meets t.ops) ?_
    by_cases h3 : opsCheck t.ops = 0
    · obtain ⟨hg1, hg2⟩ := hgo fun _ => h3
      simp [OpS.pv, TxnS.pv, opsPV, go_sem, h1, h2, h0, h3, hnil, h0n]
      refine W_loop pOK (fun i : Nat => { n := 45, t := [(3, .int .i64 ((i : Int) + 1)), (1, .ref 1 0), (2, .int .i64 0)], b := [(1, ⟨24, [.int .i64 t.seq, opsPV t.ops]⟩)], r := [] })
        (fun i => i + 1 ≤ t.ops.length ∧ ∀ (j : Nat) x y, j < i → t.ops[j]? = some x → t.ops[j + 1]? = some y → kle y.key x.key = false)
        (fun i => t.ops.length - i) 0 ⟨by omega, fun j x y h => by omega⟩ (Sub.mk' rfl (by simp [subL, lk]) (by simp [subL, lk, opsPV]) trivial) fun i ⟨hi, ha⟩ _ B hB => ?_
      rcases Nat.lt_or_ge (i + 1) t.ops.length with hlt | hge
      · have hm1 : i < t.ops.length := by omega
        have hx : t.ops[i]? = some t.ops[i] := List.getElem?_eq_getElem hm1
        have hy : t.ops[i + 1]? = some t.ops[i + 1] := List.getElem?_eq_getElem hlt
        have hw3 : IntKind.i64.wrap (i : Int) = i := by rw [wrapI] <;> omega
        have hw4 : IntKind.i64.wrap ((i : Int) + 1 + 1) = i + 1 + 1 := wrapI (by omega) (by omega)
        have hI : (i : Int) + 1 < t.ops.length := by omega
        have hI1 : (0 : Int) ≤ (i : Int) + 1 := by omega
        have hI2 : (i : Int) < t.ops.length := by omega
        have hn : ((i : Int) + 1).toNat = i + 1 := by omega
        simp [OpS.pv, TxnS.pv, opsPV, go_sem, hlt, hm1, hw3, hw4, hI, hI1, hI2, Int.not_le.2 hI, hn]
        refine ⟨by kernel_rfl, fun h => ?_, fun h4 h5 => hB (i + 1) _ ⟨by omega, fun j x y hj hjx hjy => ?_⟩ (by omega) (Sub.mk' rfl (by simp [subL, lk]) (by simp [subL, lk, opsPV]) trivial)⟩
        · refine hg1 fun hA => ?_
          have := hA i _ _ hx hy
          rw [kle] at this
          rcases h with h | h <;> simp [h] at this
        · rcases Nat.lt_or_ge j i with h | h
          · exact ha j x y h hjx hjy
          · have : j = i := by omega
            subst this
            rw [hx] at hjx; rw [hy] at hjy; cases hjx; cases hjy
            simp [kle, h4, h5]
      · have hI : ¬ ((i : Int) + 1 < t.ops.length) := by omega
        simp [OpS.pv, TxnS.pv, opsPV, go_sem, hI]
        have := hg2 fun j x y hjx hjy => ha j x y (by have := (List.getElem?_eq_some_iff.1 hjy).1; omega) hjx hjy
        simp [this]
    · have : mayB t = false := mayB_false fun hm => h3 (((mayT_iff t).1 hm).1.2.2 (by omega))
      rw [this]
      simp [OpS.pv, TxnS.pv, opsPV, go_sem, h1, h2, h0, h3, hnil, h0n]
end Go.Proofs.Ytlflomhehhcfnaa
