/- batch.may, batch.Check, txn.key, and the document's Op, May, Check -/
import Derived.Test.YtlflomhehhcfnaaTy
namespace Go.Proofs.Ytlflomhehhcfnaa
open Go Go.Mh

def mayS (o : OpS) : Bool := decide (1 ≤ (o.key.size : Int)) && decide ((o.key.size : Int) ≤ 64) && decide ((o.val.size : Int) ≤ 512) && (!o.dead || o.val.toList.isEmpty)

theorem may_meets (o : OpS) : Meets Try.prog 35 [o.pv] (.bool (mayS o)) := by
  refine W_fun pOK Try.func35 rfl rfl (Nat.le_of_ble_eq_true rfl) fun c _ => ?_
  simp [OpS.pv, Try.f35, go_sem]
  exact ⟨fun h1 h2 h3 => ⟨⟨⟨h1, h2⟩, h3⟩, fun h => ⟨⟨⟨h1, h2⟩, h3⟩, h⟩⟩, rfl⟩
theorem op_meets (o : OpS) : Meets Try.prog 34 [o.pv] (.bool (mayS o)) := by
  refine W_fun pOK Try.func34 rfl rfl (Nat.le_of_ble_eq_true rfl) fun c _ => ?_
  simp [OpS.pv, Try.f34, go_sem]
  exact ⟨fun h1 h2 h3 => ⟨⟨⟨h1, h2⟩, h3⟩, fun h => ⟨⟨⟨h1, h2⟩, h3⟩, h⟩⟩, rfl⟩

def opsCheck (l : List OpS) : Int := if l.length < 1 ∨ 64 < l.length then 4 else if l.all mayS then 0 else 8

theorem all_take {α : Type} {p : α → Bool} {l : List α} {i : Nat} {x : α} (h : (l.take i).all p = true) (hx : l[i]? = some x) (hp : p x = true) : (l.take (i + 1)).all p = true := by
  rw [List.take_add_one, hx, List.all_append, h]
  simp [hp]

theorem opsCheck_bad {l : List OpS} {i : Nat} {o : OpS} (h1 : 1 ≤ l.length) (h2 : l.length ≤ 64) (hx : l[i]? = some o) (h : mayS o = false) : 8 = opsCheck l := by
  have ha : ¬ l.all mayS = true := fun ha => by
    have := List.all_eq_true.1 ha o (List.mem_of_getElem? hx)
    rw [h] at this
    cases this
  rw [opsCheck, if_neg (by omega), if_neg ha]

set_option maxHeartbeats 1000000 in
theorem check_meets (l : List OpS) : Meets Try.prog 23 [opsPV l] (.int .i64 (opsCheck l)) := by
  refine W_fun pOK Try.func23 rfl rfl (Nat.le_of_ble_eq_true rfl) fun c _ => ?_
  simp [OpS.pv, opsPV, Try.f23, go_sem]
  refine ⟨fun h => by rw [opsCheck, if_pos (by omega)], fun h1 h2 => ?_⟩
  refine W_loop pOK (fun i : Nat => { n := 23, t := [(15, .int .i64 i), (14, .int .i64 l.length), (13, opsPV l), (2, .int .i64 0)], b := [], r := [] })
    (fun i => i ≤ l.length ∧ (l.take i).all mayS = true) (fun i => l.length - i) 0 ⟨Nat.zero_le _, rfl⟩ (Sub.mk' rfl (by simp [subL, lk, opsPV]) trivial trivial) fun i ⟨hi, hall⟩ _ B hB => ?_
  rcases Nat.lt_or_ge i l.length with hlt | hge
  · have hx : l[i]? = some l[i] := List.getElem?_eq_getElem hlt
    have hw : IntKind.i64.wrap ((i : Int) + 1) = i + 1 := wrapI (by omega) (by omega)
    simp [OpS.pv, opsPV, go_sem, hlt, Nat.not_le.2 hlt]
    refine WC_meets pOK (may_meets l[i]) ?_
    simp [OpS.pv, opsPV, go_sem, hw]
    refine ⟨fun h => opsCheck_bad (by omega) (by omega) hx h, fun h => hB (i + 1) _ ⟨hlt, all_take hall hx h⟩ (by omega) (Sub.mk' rfl ?_ trivial trivial)⟩
    simp [subL, lk, opsPV]
  · have e : i = l.length := by omega
    subst e
    simp [OpS.pv, opsPV, go_sem]
    rw [opsCheck, if_neg (by omega), if_pos (by simpa using hall)]

def keyOk (s : ByteArray) : Bool := decide (1 ≤ (s.size : Int)) && decide ((s.size : Int) ≤ 64)
theorem key_meets (s : ByteArray) : Meets Try.prog 30 [.str s] (.bool (keyOk s)) := by
  refine W_fun pOK Try.func30 rfl rfl (Nat.le_of_ble_eq_true rfl) fun c _ => ?_
  simp [Try.f30, go_sem, keyOk]
theorem isnan_meets (s : ByteArray) : Meets Try.prog 47 [.str s] (.bool false) := by
  refine W_fun pOK Try.func47 rfl rfl (Nat.le_of_ble_eq_true rfl) fun c _ => ?_
  simp [Try.f47, go_sem]
def cmpS (a b : ByteArray) : Int := if Op.bytesLess a.toList b.toList = true then -1 else if a.toList = b.toList then 0 else 1
theorem compare_meets (a b : ByteArray) : Meets Try.prog 41 [.str a, .str b] (.int .i64 (cmpS a b)) := by
  refine W_fun pOK Try.func41 rfl rfl (Nat.le_of_ble_eq_true rfl) fun c _ => ?_
  simp [Try.f41, go_sem]
  refine WC_meets pOK (isnan_meets a) ?_
  simp [go_sem]
  refine WC_meets pOK (isnan_meets b) ?_
  simp [go_sem]
  refine ⟨fun h => by simp [cmpS, h], fun h => ⟨fun _ h2 => by simp [cmpS, h, h2], fun h2 => by rw [cmpS, if_neg (by rw [h]; decide), if_pos (h2 h)]⟩⟩
end Go.Proofs.Ytlflomhehhcfnaa
