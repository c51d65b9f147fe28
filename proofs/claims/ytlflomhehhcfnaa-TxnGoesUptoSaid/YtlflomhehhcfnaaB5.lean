/- slices.Clone -/
import Derived.Test.YtlflomhehhcfnaaB4
namespace Go.Proofs.Ytlflomhehhcfnaa
open Go Go.Mh

/-- slices.Clone: a row of one's own. -/
theorem clone_owns (l : List OpS) (hl : l.length ≤ 1048576) : Owns Try.prog 32 [opsPV l] [] [] (.row 5) [] [(5, ⟨32, 3, l.map OpS.pv, true⟩)] := by
  refine W_funO pOK Try.func32 rfl rfl (Nat.le_of_ble_eq_true rfl) rfl fun c _ => ?_
  simp [opsPV, Try.f32, go_sem]
  refine ⟨by omega, fun h => ⟨[.slot 2 5 32 3], ?_⟩⟩
  simp [EndA, adopt, go_sem, h]
theorem clone500 (l : List OpS) (hl : l.length ≤ 1048576) : Owns Try.prog 32 [opsPV l] [] [] (.row 500) [] [(500, ⟨32, 3, l.map OpS.pv, true⟩)] :=
  ((clone_owns l hl).ren 0 495).to (by simp [opsPV, rn1, map2]) rfl rfl rfl rfl rfl
end Go.Proofs.Ytlflomhehhcfnaa
