/- The law's function answers true -/
import Derived.Test.YtlflomhehhcfnaaB9
namespace Go.Proofs.Ytlflomhehhcfnaa
open Go Go.Mh

theorem put500 (t : TxnS) (k v : ByteArray) (hl : t.ops.length ≤ 1048576) {a : TxnS × Int} (ha : putS t ⟨k, false, v⟩ = a) :
    Owns Try.prog 6 [t.pv, .str k, .str v] [] [] (.tup [.agg [.int .i64 a.1.seq, .row 500], .int .i64 a.2]) [] [(500, ⟨32, 3, a.1.ops.map OpS.pv, true⟩)] := by
  subst ha; exact put_owns t k v hl
theorem del600 (t : TxnS) (k : ByteArray) (hl : t.ops.length ≤ 1048576) {a : TxnS × Int} (ha : putS t ⟨k, true, ⟨#[]⟩⟩ = a) :
    Owns Try.prog 8 [t.pv, .str k] [] [] (.tup [.agg [.int .i64 a.1.seq, .row 600], .int .i64 a.2]) [] [(600, ⟨32, 3, a.1.ops.map OpS.pv, true⟩)] := by
  subst ha
  exact ((del_owns t k hl).ren 0 100).to (by simp [TxnS.pv, opsPV, rn1, map2]) rfl rfl (by simp [map3, map2, rn1]) rfl rfl
theorem ref_meets (t : TxnS) (o : OpS) (hl : t.ops.length ≤ 1048576) {a : TxnS × Int} (ha : putS t o = a) : Meets Try.prog 7 [t.pv, o.pv] (.tup [a.1.pv, .int .i64 a.2]) := by
  subst ha
  rw [put_with]
  exact refWith_meets t o hl

set_option maxRecDepth 20000 in
set_option maxHeartbeats 4000000 in
theorem law_meets (t : TxnS) (k v : ByteArray) (hs : Sm t.ops) : Meets Try.prog 3 [t.pv, .str k, .str v] (.bool true) := by
  have hl := hs.len
  refine W_fun pOK Try.func3 rfl rfl (Nat.le_of_ble_eq_true rfl) fun c _ => ?_
  simp [OpS.pv, TxnS.pv, opsPV, Try.f3, go_sem]
  refine WC_meets pOK (great_meets t.ops hs) ?_
  by_cases hg : great t.ops = true
  · simp [OpS.pv, TxnS.pv, opsPV, go_sem, hg]
  have hg : great t.ops = false := by simpa using hg
  obtain ⟨a, ha⟩ : ∃ a, putS t ⟨k, false, v⟩ = a := ⟨_, rfl⟩
  obtain ⟨b, hb⟩ : ∃ b, putS t ⟨k, true, ⟨#[]⟩⟩ = b := ⟨_, rfl⟩
  have hal : a.1.ops.length ≤ t.ops.length + 1 := by rw [← ha]; exact put_len _ _
  have hbl : b.1.ops.length ≤ t.ops.length + 1 := by rw [← hb]; exact put_len _ _
  have hl64 : t.ops.length ≤ 100000 := by
    have h1 : ∀ l : List OpS, l.length * 10 ≤ sumOps l := fun l => by
      induction l with
      | nil => simp [sumOps]
      | cons x l ih => simp only [sumOps, List.map_cons, List.sum_cons, List.length_cons, opSz] at ih ⊢; omega
    have := h1 t.ops
    simp [great] at hg
    omega
  simp [TxnS.pv, opsPV, go_sem, hg]
  refine fun h1 h2 => ⟨by omega, ?_⟩
  refine WC_owns pOK (put500 t k v hl ha) (by simp [go_sem, TxnS.pv, opsPV]) (by simp [go_sem]) (by simp [go_sem]) (by simp [go_sem]) ?_
  simp [TxnS.pv, opsPV, go_sem]
  refine WC_meets pOK (ref_meets t ⟨k, false, v⟩ hl ha) ?_
  simp [TxnS.pv, opsPV, go_sem]
  refine WC_owns pOK (del600 t k hl hb) (by simp [go_sem, TxnS.pv, opsPV]) (by simp [go_sem]) (by simp [go_sem]) (by simp [go_sem]) ?_
  simp [TxnS.pv, opsPV, go_sem]
  refine WC_meets pOK (ref_meets t ⟨k, true, ⟨#[]⟩⟩ hl hb) ?_
  simp [TxnS.pv, opsPV, go_sem]
  refine ⟨by kernel_rfl, WQC_meets (sameT_meets a.1 a.1 (by omega)) rfl ?_⟩
  simp [TxnS.pv, opsPV, go_sem]
  refine WQC_meets (sameT_meets b.1 b.1 (by omega)) rfl ?_
  simp [TxnS.pv, opsPV, go_sem]
  refine WQC_meets (txnCheck_meets t hl) rfl ?_
  simp [TxnS.pv, opsPV, go_sem]
  refine WQC_meets (refCheck_meets t hl) rfl ?_
  simp [TxnS.pv, opsPV, go_sem]
  refine W_loop pOK (fun p : Nat × List OpS => { n := 111, t := [(17, .int .i64 p.1), (16, .bool true), (8, .ref 8 0), (7, .ref 7 0), (3, .ref 3 0), (6, .bool false)], b := [(8, ⟨24, [.int .i64 a.1.seq, .row 500]⟩), (7, ⟨24, [.int .i64 t.seq, .row 38]⟩), (3, ⟨24, [.int .i64 t.seq, opsPV t.ops]⟩)], r := [(500, ⟨32, 3, p.2.map OpS.pv, true⟩), (38, ⟨32, 3, t.ops.map OpS.pv, false⟩)] })
    (fun p => p.1 ≤ p.2.length ∧ p.2.length = a.1.ops.length) (fun p => p.2.length - p.1) (0, a.1.ops) ⟨Nat.zero_le _, rfl⟩
    (Sub.mk' rfl (by simp [subL, lk]) (by simp [subL, lk, opsPV]) (by simp [subL, lk])) fun p hp _ B hB => ?_
  obtain ⟨i, m⟩ := p
  obtain ⟨him, hml⟩ := hp
  simp only at him hml
  rcases Nat.lt_or_ge i m.length with hlt | hge
  · have hw : IntKind.i64.wrap ((i : Int) + 1) = i + 1 := wrapI (by omega) (by omega)
    simp [TxnS.pv, opsPV, go_sem, hlt, Nat.not_le.2 hlt, hw]
    refine hB (i + 1, m.set i { m[i] with val := ⟨#[119, 114, 105, 116, 116, 101, 110, 32, 111, 118, 101, 114]⟩ }) _ ⟨by simp; omega, by simp [hml]⟩ (by simp; omega) (Sub.mk' rfl (by simp [subL, lk]) (by simp [subL, lk, opsPV]) (by simp [subL, lk, OpS.pv, List.map_set]))
  · have e : i = m.length := by omega
    subst e
    simp [TxnS.pv, opsPV, go_sem]
    refine WC_meets pOK (sameT_meets t t hl) ?_
    simp [TxnS.pv, opsPV, go_sem]
end Go.Proofs.Ytlflomhehhcfnaa
