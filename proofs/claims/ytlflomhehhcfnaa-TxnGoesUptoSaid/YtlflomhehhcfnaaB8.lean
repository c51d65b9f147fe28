/- txn.with -/
import Derived.Test.YtlflomhehhcfnaaB7
namespace Go.Proofs.Ytlflomhehhcfnaa
open Go Go.Mh

/-- What txn.with answers. -/
noncomputable def putS (t : TxnS) (o : OpS) : TxnS × Int :=
  if mayB t = false then (⟨0, []⟩, 8)
  else if o.key.size < 1 ∨ 64 < o.key.size ∨ 512 < o.val.size then (⟨0, []⟩, 3)
  else if foundS t.ops o.key = true then (⟨t.seq, t.ops.set (below t.ops o.key) o⟩, 0)
  else if t.ops.length = 64 then (⟨0, []⟩, 4)
  else (⟨t.seq, t.ops.take (below t.ops o.key) ++ o :: t.ops.drop (below t.ops o.key)⟩, 0)

set_option maxHeartbeats 4000000 in
set_option maxRecDepth 20000 in
theorem with_owns (t : TxnS) (o : OpS) (hl : t.ops.length ≤ 1048576) :
    Owns Try.prog 20 [t.pv, o.pv] [] [] (.tup [.agg [.int .i64 (putS t o).1.seq, .row 500], .int .i64 (putS t o).2]) [] [(500, ⟨32, 3, (putS t o).1.ops.map OpS.pv, true⟩)] := by
  refine W_funO pOK Try.func20 rfl rfl (Nat.le_of_ble_eq_true rfl) rfl fun c _ => ?_
  simp [OpS.pv, TxnS.pv, opsPV, Try.f20, go_sem]
  refine WC_meets pOK (txnCheck_meets t hl) ?_
  by_cases hm : mayB t = false
  · have hp : putS t o = (⟨0, []⟩, 8) := by rw [putS, if_pos hm]
    simp [OpS.pv, TxnS.pv, opsPV, go_sem, hm, hp]
    exact ⟨[.cell 4 1 500 32 3], by simp [EndA, adopt, go_sem, putCells]⟩
  have hm1 : mayB t = true := by simpa using hm
  simp [OpS.pv, TxnS.pv, opsPV, go_sem, hm1]
  refine WC_meets pOK (key_meets o.key) ?_
  simp [OpS.pv, TxnS.pv, opsPV, go_sem, hm1]
  refine ⟨fun h => ?_, fun h1 h2 => ?_⟩
  · have hp : putS t o = (⟨0, []⟩, 3) := by
      rw [putS, if_neg hm, if_pos]
      rcases h with h | h
      · simp [keyOk] at h; omega
      · omega
    simp [hp]
    exact ⟨[.cell 4 1 500 32 3], by simp [EndA, adopt, go_sem, putCells]⟩
  have hk : ¬ (o.key.size < 1 ∨ 64 < o.key.size ∨ 512 < o.val.size) := by simp [keyOk] at h1; omega
  have hmt := of_mayB hm1
  have h64 : t.ops.length ≤ 64 := hmt.2.2.2.2
  have hbl := below_le t.ops o.key
  refine WC_meets pOK (find_meets t o.key hl hmt.2.1) ?_
  simp [OpS.pv, TxnS.pv, opsPV, go_sem, hm1]
  refine WC_owns pOK (clone500 t.ops hl) (by simp [go_sem, opsPV]) (by simp [go_sem]) (by simp [go_sem]) (by simp [go_sem]) ?_
  cases hf : foundS t.ops o.key with
  | true =>
    have hp : putS t o = (⟨t.seq, t.ops.set (below t.ops o.key) o⟩, 0) := by rw [putS, if_neg hm, if_neg hk, if_pos hf]
    have hlt : below t.ops o.key < t.ops.length := by
      unfold foundS at hf
      split at hf
      · rename_i x hx; exact (List.getElem?_eq_some_iff.1 hx).1
      · cases hf
    have hlt2 : (below t.ops o.key : Int) < t.ops.length := by omega
    simp [OpS.pv, TxnS.pv, opsPV, go_sem, hm1, hf, hlt, hlt2]
    refine .inl ⟨by simp [hp], ?_⟩
    rw [hp]
    simp [OpS.pv]
  | false =>
    by_cases h4 : t.ops.length = 64
    · have hp : putS t o = (⟨0, []⟩, 4) := by rw [putS, if_neg hm, if_neg hk, if_neg (by rw [hf]; decide), if_pos h4]
      simp [OpS.pv, TxnS.pv, opsPV, go_sem, hm1, hf, h4, hp]
      exact ⟨[.drop 500, .cell 4 1 500 32 3], by simp [EndA, adopt, go_sem, putCells]⟩
    · have h4i : ¬ ((t.ops.length : Int) = 64) := by omega
      have hp : putS t o = (⟨t.seq, t.ops.take (below t.ops o.key) ++ o :: t.ops.drop (below t.ops o.key)⟩, 0) := by rw [putS, if_neg hm, if_neg hk, if_neg (by rw [hf]; decide), if_neg h4]
      simp [OpS.pv, TxnS.pv, opsPV, go_sem, hm1, hf, h4, h4i, hp]
      refine WC_owns pOK (insert_owns t.ops o _ hbl hl) (by simp [go_sem]) (by simp [go_sem]) (by simp [go_sem, OpS.pv]) (by simp [go_sem]) ?_
      simp [OpS.pv, TxnS.pv, opsPV, go_sem]
end Go.Proofs.Ytlflomhehhcfnaa
