/- ref21.With -/
import Derived.Test.YtlflomhehhcfnaaB5
import Derived.Test.YtlflomhehhcfnaaMhN
namespace Go.Proofs.Ytlflomhehhcfnaa
open Go Go.Mh

def insStep (o : OpS) (p : List OpS × Bool) (x : OpS) : List OpS × Bool :=
  ((if p.2 = false ∧ kle o.key x.key = true then p.1 ++ [o] else p.1) ++ (if x.key = o.key then [] else [x]), p.2 || kle o.key x.key)
def insP (o : OpS) (l : List OpS) : List OpS × Bool := l.foldl (insStep o) ([], false)
def insS (o : OpS) (l : List OpS) : List OpS := if (insP o l).2 = true then (insP o l).1 else (insP o l).1 ++ [o]
theorem insP_take {o : OpS} {l : List OpS} {i : Nat} {x : OpS} (hx : l[i]? = some x) : insP o (l.take (i + 1)) = insStep o (insP o (l.take i)) x := by
  rw [List.take_add_one, hx]; simp [insP, List.foldl_append]
theorem insP_len (o : OpS) (l : List OpS) : (insP o l).1.length ≤ 2 * l.length := by
  suffices h : ∀ (l : List OpS) (p : List OpS × Bool), (l.foldl (insStep o) p).1.length ≤ p.1.length + 2 * l.length by
    have := h l ([], false); simpa [insP] using this
  intro l
  induction l with
  | nil => intro p; simp
  | cons x l ih =>
    intro p
    have h1 := ih (insStep o p x)
    have h2 : (insStep o p x).1.length ≤ p.1.length + 2 := by
      simp only [insStep, List.length_append]
      split <;> split <;> simp
    simp only [List.foldl_cons, List.length_cons]
    omega

/-- What the document's With answers. -/
noncomputable def withS (t : TxnS) (o : OpS) : TxnS × Int :=
  if mayB t = false then (⟨0, []⟩, 8)
  else if o.key.size < 1 ∨ 64 < o.key.size ∨ 512 < o.val.size then (⟨0, []⟩, 3)
  else if 64 < (insS o t.ops).length then (⟨0, []⟩, 4)
  else (⟨t.seq, insS o t.ops⟩, 0)

def wSt (t : TxnS) (o : OpS) (i : Nat) : S :=
  { n := 92, t := [(8, .int .i64 i), (7, .bool (insP o (t.ops.take i)).2), (5, .int .i64 0), (6, .ref 6 0), (2, .ref 2 0), (3, .ref 3 0), (4, .ref 4 0)],
    b := [(6, ⟨24, [.int .i64 t.seq, .row 500]⟩), (4, ⟨24, [.int .i64 0, .nils]⟩), (3, ⟨32, [.str o.key, .bool o.dead, .str o.val]⟩), (2, ⟨24, [.int .i64 t.seq, opsPV t.ops]⟩)],
    r := [(500, ⟨32, 3, (insP o (t.ops.take i)).1.map OpS.pv, true⟩)] }

set_option maxHeartbeats 4000000 in
theorem refWith_meets (t : TxnS) (o : OpS) (hl : t.ops.length ≤ 1048576) : Meets Try.prog 7 [t.pv, o.pv] (.tup [(withS t o).1.pv, .int .i64 (withS t o).2]) := by
  refine W_fun pOK Try.func7 rfl rfl (Nat.le_of_ble_eq_true rfl) fun c _ => ?_
  simp [OpS.pv, TxnS.pv, opsPV, Try.f7, go_sem]
  refine WC_meets pOK (refMay_meets t hl) ?_
  by_cases hm : mayB t = false
  · simp [OpS.pv, TxnS.pv, opsPV, go_sem, hm, withS]
  have hm1 : mayB t = true := by simpa using hm
  simp [OpS.pv, TxnS.pv, opsPV, go_sem, hm1]
  refine ⟨fun h => ?_, fun h1 h2 h3 => ?_⟩
  · have hw : withS t o = (⟨0, []⟩, 3) := by rw [withS, if_neg hm, if_pos (by omega)]
    simp [hw]
  have hw : withS t o = if 64 < (insS o t.ops).length then (⟨0, []⟩, 4) else (⟨t.seq, insS o t.ops⟩, 0) := by rw [withS, if_neg hm, if_neg (by omega)]
  have hml : t.ops.length ≤ 64 := (of_mayB hm1).2.2.2.2
  refine W_loopA pOK [.cell 6 1 500 32 3] (wSt t o) (fun i => i ≤ t.ops.length) (fun i => t.ops.length - i) 0 (Nat.zero_le _)
    (by simp [adopt, go_sem, SubA]; exact Sub.mk' rfl (by simp [subL, wSt, lk, insP]) (by simp [subL, wSt, lk, opsPV, putCells]) (by simp [subL, wSt, lk, insP])) fun i hi _ B hB => ?_
  have hle := insP_len o (t.ops.take i)
  have hle2 : (insP o (t.ops.take i)).1.length ≤ 128 := by rw [List.length_take] at hle; omega
  rcases Nat.lt_or_ge i t.ops.length with hlt | hge
  · have hx : t.ops[i]? = some t.ops[i] := List.getElem?_eq_getElem hlt
    have hw1 : IntKind.i64.wrap ((i : Int) + 1) = i + 1 := wrapI (by omega) (by omega)
    have hst := insP_take (o := o) hx
    have hB1 : ∀ s', Sub (wSt t o (i + 1)) s' → B s' := fun s' h => hB (i + 1) s' hlt (by omega) h
    have kt : Op.bytesLess o.key.toList t.ops[i].key.toList = true ∨ o.key = t.ops[i].key → kle o.key t.ops[i].key = true := fun h => by
      rw [kle]; rcases h with h | h <;> simp [h]
    have kf : Op.bytesLess o.key.toList t.ops[i].key.toList = false → ¬ o.key = t.ops[i].key → kle o.key t.ops[i].key = false := fun h h2 => by
      rw [kle]; simp [h, tl_iff, h2]
    have ks : kle o.key o.key = true := by simp [kle]
    cases hput : (insP o (t.ops.take i)).2 with
    | false =>
      simp [wSt, OpS.pv, TxnS.pv, opsPV, go_sem, hlt, Nat.not_le.2 hlt, hput, hw1, tl_iff]
      refine ⟨by kernel_rfl, fun hc => ⟨⟨rfl, by omega⟩, by kernel_rfl, fun hk => ?_, fun hk => ?_⟩, fun hc hc2 => ⟨by kernel_rfl, fun hk => ?_, fun hk => ?_⟩⟩
      · refine T_draw pOK [0, 1, 2, 3, 4, 5, 6, 7, 8, 9, 10] (by kernel_rfl) ?_
        simp [wSt, OpS.pv, TxnS.pv, opsPV, go_sem, hlt, Nat.not_le.2 hlt, hput, hw1, tl_iff]
        refine ⟨⟨rfl, by omega⟩, hB1 _ (Sub.mk' rfl ?_ ?_ ?_)⟩ <;> simp [subL, wSt, lk, opsPV, hst, insStep, hput, kt hc, hk, ks, OpS.pv]
      · exact hB1 _ (Sub.mk' rfl (by simp [subL, wSt, lk, opsPV, hst, insStep, hput, kt hc, hk, ks, OpS.pv]) (by simp [subL, wSt, lk, opsPV, hst, insStep, hput, kt hc, hk, ks, OpS.pv]) (by simp [subL, wSt, lk, opsPV, hst, insStep, hput, kt hc, hk, ks, OpS.pv]))
      · refine T_draw pOK [0, 1, 2, 3, 4, 5, 6, 7, 8, 9, 10] (by kernel_rfl) ?_
        simp [wSt, OpS.pv, TxnS.pv, opsPV, go_sem, hlt, Nat.not_le.2 hlt, hput, hw1, tl_iff]
        refine ⟨⟨rfl, by omega⟩, hB1 _ (Sub.mk' rfl ?_ ?_ ?_)⟩ <;> simp [subL, wSt, lk, opsPV, hst, insStep, hput, kf hc hc2, hk, OpS.pv]
      · exact absurd hk.symm hc2
    | true =>
      simp [wSt, OpS.pv, TxnS.pv, opsPV, go_sem, hlt, Nat.not_le.2 hlt, hput, hw1, tl_iff]
      refine ⟨by kernel_rfl, by kernel_rfl, fun hk => ?_, fun hk => ?_⟩
      · refine T_draw pOK [0, 1, 2, 3, 4, 5, 6, 7, 8, 9, 10] (by kernel_rfl) ?_
        simp [wSt, OpS.pv, TxnS.pv, opsPV, go_sem, hlt, Nat.not_le.2 hlt, hput, hw1, tl_iff]
        refine ⟨⟨rfl, by omega⟩, hB1 _ (Sub.mk' rfl ?_ ?_ ?_)⟩ <;> simp [subL, wSt, lk, opsPV, hst, insStep, hput, hk, OpS.pv]
      · exact hB1 _ (Sub.mk' rfl (by simp [subL, wSt, lk, opsPV, hst, insStep, hput, hk, OpS.pv]) (by simp [subL, wSt, lk, opsPV, hst, insStep, hput, hk, OpS.pv]) (by simp [subL, wSt, lk, opsPV, hst, insStep, hput, hk, OpS.pv]))
  · have e : i = t.ops.length := by omega
    subst e
    rw [List.take_length] at hle2
    cases hput : (insP o t.ops).2 with
    | false =>
      have hi : insS o t.ops = (insP o t.ops).1 ++ [o] := by simp [insS, hput]
      rw [hi] at hw
      simp [wSt, OpS.pv, TxnS.pv, opsPV, go_sem, tl_iff, hput]
      refine ⟨⟨rfl, by omega⟩, fun h => ?_, fun h => ?_⟩
      · rw [if_pos (by simp; omega)] at hw
        simp [hw]
      · rw [if_neg (by simp; omega)] at hw
        simp [hw, OpS.pv]
    | true =>
      have hi : insS o t.ops = (insP o t.ops).1 := by simp [insS, hput]
      rw [hi] at hw
      simp [wSt, OpS.pv, TxnS.pv, opsPV, go_sem, tl_iff, hput]
      refine ⟨fun h => ?_, fun h => ?_⟩
      · rw [if_pos (by omega)] at hw
        simp [hw]
      · rw [if_neg (by omega)] at hw
        simp [hw, OpS.pv]
end Go.Proofs.Ytlflomhehhcfnaa
