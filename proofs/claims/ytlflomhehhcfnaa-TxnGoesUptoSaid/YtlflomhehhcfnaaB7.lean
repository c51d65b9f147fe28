/- slices.Insert -/
import Derived.Test.YtlflomhehhcfnaaB6
import Derived.Test.YtlflomhehhcfnaaI3
namespace Go.Proofs.Ytlflomhehhcfnaa
open Go Go.Mh

set_option maxHeartbeats 4000000 in
theorem insert_end (l : List OpS) (o : OpS) (hl : l.length ≤ 1048576) :
    Owns Try.prog 33 [.row 500, .int .i64 l.length, .row 40] [] [(500, ⟨32, 3, l.map OpS.pv, true⟩), (40, ⟨32, 3, [o.pv], true⟩)] (.row 500) [] [(500, ⟨32, 3, (l ++ [o]).map OpS.pv, true⟩)] := by
  refine W_funO pOK Try.func33 rfl rfl (Nat.le_of_ble_eq_true rfl) rfl fun c _ => ?_
  simp [Try.f33, go_sem, OpS.pv]
  exact ⟨rfl, by omega⟩

theorem insert_owns (l : List OpS) (o : OpS) (i : Nat) (hi : i ≤ l.length) (hl : l.length ≤ 1048576) :
    Owns Try.prog 33 [.row 500, .int .i64 i, .row 40] [] [(500, ⟨32, 3, l.map OpS.pv, true⟩), (40, ⟨32, 3, [o.pv], true⟩)] (.row 500) [] [(500, ⟨32, 3, (l.take i ++ o :: l.drop i).map OpS.pv, true⟩)] := by
  rcases Nat.lt_or_ge i l.length with h | h
  · exact insert_mid l o i h hl
  · have : i = l.length := by omega
    subst this
    have := insert_end l o hl
    simpa using this
end Go.Proofs.Ytlflomhehhcfnaa
