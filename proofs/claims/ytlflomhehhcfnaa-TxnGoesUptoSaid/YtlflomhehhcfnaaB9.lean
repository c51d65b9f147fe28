/- The plain law: what txn.with answers is what the document's With answers; txn.Put, txn.Del -/
import Derived.Test.YtlflomhehhcfnaaB8
namespace Go.Proofs.Ytlflomhehhcfnaa
open Go Go.Mh

theorem Asc.tail {x : OpS} {l : List OpS} (h : Asc (x :: l)) : Asc l := fun i a b h1 h2 => h (i + 1) a b (by simpa using h1) (by simpa using h2)
theorem fold_put {o : OpS} : ∀ {l : List OpS} {out : List OpS}, (∀ x ∈ l, x.key ≠ o.key) → l.foldl (insStep o) (out, true) = (out ++ l, true)
  | [], out, _ => by simp
  | x :: l, out, h => by
    have h1 := h x List.mem_cons_self
    rw [List.foldl_cons]
    have : insStep o (out, true) x = (out ++ [x], true) := by simp [insStep, h1]
    rw [this, fold_put (fun y hy => h y (List.mem_cons_of_mem _ hy))]
    simp

def inserted (o : OpS) (l : List OpS) : List OpS := l.take (below l o.key) ++ o :: (if foundS l o.key = true then l.drop (below l o.key + 1) else l.drop (below l o.key))

theorem fold_ins {o : OpS} : ∀ {l : List OpS} {out : List OpS}, Asc l → (let p := l.foldl (insStep o) (out, false); if p.2 = true then p.1 else p.1 ++ [o]) = out ++ inserted o l
  | [], out, _ => by simp [inserted, below, foundS]
  | x :: l, out, hA => by
    rw [List.foldl_cons]
    by_cases hx : klt x.key o.key = true
    · have hk : kle o.key x.key = false := kle_false.2 hx
      have hne : x.key ≠ o.key := fun e => by rw [e, klt_irrefl] at hx; cases hx
      have : insStep o (out, false) x = (out ++ [x], false) := by simp [insStep, hk, hne]
      rw [this]
      have ih := fold_ins (o := o) (out := out ++ [x]) hA.tail
      simp only at ih ⊢
      rw [ih]
      have hb : below (x :: l) o.key = below l o.key + 1 := by simp [below, hx]
      have hf : foundS (x :: l) o.key = foundS l o.key := by simp [foundS, hb]
      simp [inserted, hb, hf]
    · have hx : klt x.key o.key = false := by simpa using hx
      have hb : below (x :: l) o.key = 0 := by simp [below, hx]
      have hk : kle o.key x.key = true := by
        rw [← Bool.not_eq_false]
        intro h
        rw [kle_false] at h
        rw [h] at hx; cases hx
      have hgt : ∀ y ∈ l, y.key ≠ o.key := fun y hy e => by
        obtain ⟨j, hj⟩ := List.getElem?_of_mem hy
        have := hA.lt (i := 0) (j := j + 1) (by omega) rfl (by simpa using hj)
        rw [e, hx] at this; cases this
      by_cases he : x.key = o.key
      · have : insStep o (out, false) x = (out ++ [o], true) := by
          have ks : kle o.key o.key = true := by simp [kle]
          simp [insStep, he, ks]
        rw [this, fold_put hgt]
        have hf : foundS (x :: l) o.key = true := by simp [foundS, hb, he]
        simp [inserted, hb, hf]
      · have : insStep o (out, false) x = (out ++ [o] ++ [x], true) := by simp [insStep, hk, he]
        rw [this, fold_put hgt]
        have hf : foundS (x :: l) o.key = false := by simp [foundS, hb, he]
        simp [inserted, hb, hf]
theorem insS_eq {o : OpS} {l : List OpS} (hA : Asc l) : insS o l = inserted o l := by
  have := fold_ins (o := o) (out := []) hA
  cases hq : (l.foldl (insStep o) ([], false)).2 with
  | true => simp [hq] at this; simp [insS, insP, hq, this]
  | false => simp [hq] at this; simp [insS, insP, hq, this]

theorem put_with (t : TxnS) (o : OpS) : putS t o = withS t o := by
  unfold putS withS
  split
  · rfl
  · rename_i hm
    split
    · rfl
    · have hm1 : mayB t = true := by simpa using hm
      have hmt := of_mayB hm1
      have h64 := hmt.2.2.2.2
      have hbl := below_le t.ops o.key
      rw [insS_eq hmt.2.1]
      by_cases hf : foundS t.ops o.key = true
      · have hlt : below t.ops o.key < t.ops.length := by
          unfold foundS at hf
          split at hf
          · rename_i x hx; exact (List.getElem?_eq_some_iff.1 hx).1
          · cases hf
        have hi : inserted o t.ops = t.ops.set (below t.ops o.key) o := by
          rw [inserted, if_pos hf, List.set_eq_take_append_cons_drop, if_pos hlt]
        rw [if_pos hf, hi, if_neg (by rw [List.length_set]; omega)]
      · have hi : inserted o t.ops = t.ops.take (below t.ops o.key) ++ o :: t.ops.drop (below t.ops o.key) := by rw [inserted, if_neg hf]
        have hlen : (t.ops.take (below t.ops o.key) ++ o :: t.ops.drop (below t.ops o.key)).length = t.ops.length + 1 := by
          simp only [List.length_append, List.length_take, List.length_cons, List.length_drop]; omega
        rw [if_neg hf, hi, hlen]
        by_cases h4 : t.ops.length = 64
        · rw [if_pos h4, if_pos (by omega)]
        · rw [if_neg h4, if_neg (by omega)]

set_option maxRecDepth 20000 in
theorem put_owns (t : TxnS) (k v : ByteArray) (hl : t.ops.length ≤ 1048576) :
    Owns Try.prog 6 [t.pv, .str k, .str v] [] [] (.tup [.agg [.int .i64 (putS t ⟨k, false, v⟩).1.seq, .row 500], .int .i64 (putS t ⟨k, false, v⟩).2]) [] [(500, ⟨32, 3, (putS t ⟨k, false, v⟩).1.ops.map OpS.pv, true⟩)] := by
  refine W_funO pOK Try.func6 rfl rfl (Nat.le_of_ble_eq_true rfl) rfl fun c _ => ?_
  simp [OpS.pv, TxnS.pv, opsPV, Try.f6, go_sem]
  refine WC_owns pOK (with_owns t ⟨k, false, v⟩ hl) (by simp [go_sem, OpS.pv, TxnS.pv, opsPV]) (by simp [go_sem]) (by simp [go_sem]) (by simp [go_sem]) ?_
  simp [OpS.pv, TxnS.pv, opsPV, go_sem]
set_option maxRecDepth 20000 in
theorem del_owns (t : TxnS) (k : ByteArray) (hl : t.ops.length ≤ 1048576) :
    Owns Try.prog 8 [t.pv, .str k] [] [] (.tup [.agg [.int .i64 (putS t ⟨k, true, ⟨#[]⟩⟩).1.seq, .row 500], .int .i64 (putS t ⟨k, true, ⟨#[]⟩⟩).2]) [] [(500, ⟨32, 3, (putS t ⟨k, true, ⟨#[]⟩⟩).1.ops.map OpS.pv, true⟩)] := by
  refine W_funO pOK Try.func8 rfl rfl (Nat.le_of_ble_eq_true rfl) rfl fun c _ => ?_
  simp [OpS.pv, TxnS.pv, opsPV, Try.f8, go_sem]
  refine WC_owns pOK (with_owns t ⟨k, true, ⟨#[]⟩⟩ hl) (by simp [go_sem, OpS.pv, TxnS.pv, opsPV]) (by simp [go_sem]) (by simp [go_sem]) (by simp [go_sem]) ?_
  simp [OpS.pv, TxnS.pv, opsPV, go_sem]

theorem put_len (t : TxnS) (o : OpS) : (putS t o).1.ops.length ≤ t.ops.length + 1 := by
  have hbl := below_le t.ops o.key
  unfold putS
  repeat' split
  all_goals simp
  omega
end Go.Proofs.Ytlflomhehhcfnaa
