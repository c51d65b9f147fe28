/- Types of this seat, as pure values. -/
import Derived.Test.YtlflomhehhcfnaaProg
import Derived.Test.YtlflomhehhcfnaaMhM
namespace Go.Proofs.Ytlflomhehhcfnaa
open Go Go.Mh
def te : TE := [
  (3, { size := 1, agg := false, zero := .int .i64 0, ik := some .i64, bytes := 8 }),
  (4, { size := 1, agg := false, zero := .bool false, isBool := true, bytes := 1 }),
  (5, { size := 1, agg := false, zero := .int .u8 0, ik := some .u8, bytes := 1 }),
  (9, { size := 1, agg := false, zero := .str ⟨#[]⟩, isStr := true, bytes := 16 }),
  (22, { size := 1, agg := false, zero := .nils, elem := some (32, 3), bytes := 24 }),
  (24, { size := 2, agg := true, zero := .agg [.int .i64 0, .nils], flds := some [⟨0, 1, false⟩, ⟨1, 1, false⟩], bytes := 32 }),
  (26, { size := 1, agg := false, zero := .int .i64 0, ik := some .i64, bytes := 8 }),
  (32, { size := 3, agg := true, zero := .agg [.str ⟨#[]⟩, .bool false, .str ⟨#[]⟩], flds := some [⟨0, 1, false⟩, ⟨1, 1, false⟩, ⟨2, 1, false⟩], bytes := 40, eqk := some [.str, .bool, .str] }),
  (38, { size := 1, agg := false, zero := .nils, elem := some (51, 2), bytes := 24 }),
  (51, { size := 2, agg := true, zero := .agg [.str ⟨#[]⟩, .str ⟨#[]⟩], flds := some [⟨0, 1, false⟩, ⟨1, 1, false⟩], bytes := 32, eqk := some [.str, .str] }),
  (57, { size := 1, agg := false, zero := .nils, elem := some (9, 1), bytes := 24 }),
  (78, { size := 1, agg := false, zero := .int .u64 0, ik := some .u64, bytes := 8 })]
theorem teOK : TEOK Try.prog te := TEOK.of (by kernel_rfl)
theorem pOK : POK Try.prog te := ⟨teOK, by kernel_rfl⟩
section
@[go_sem] theorem lte3 : lk 3 te = some { size := 1, agg := false, zero := .int .i64 0, ik := some .i64, bytes := 8 } := rfl
@[go_sem] theorem lte4 : lk 4 te = some { size := 1, agg := false, zero := .bool false, isBool := true, bytes := 1 } := rfl
@[go_sem] theorem lte5 : lk 5 te = some { size := 1, agg := false, zero := .int .u8 0, ik := some .u8, bytes := 1 } := rfl
@[go_sem] theorem lte9 : lk 9 te = some { size := 1, agg := false, zero := .str ⟨#[]⟩, isStr := true, bytes := 16 } := rfl
@[go_sem] theorem lte22 : lk 22 te = some { size := 1, agg := false, zero := .nils, elem := some (32, 3), bytes := 24 } := rfl
@[go_sem] theorem lte24 : lk 24 te = some { size := 2, agg := true, zero := .agg [.int .i64 0, .nils], flds := some [⟨0, 1, false⟩, ⟨1, 1, false⟩], bytes := 32 } := rfl
@[go_sem] theorem lte26 : lk 26 te = some { size := 1, agg := false, zero := .int .i64 0, ik := some .i64, bytes := 8 } := rfl
@[go_sem] theorem lte32 : lk 32 te = some { size := 3, agg := true, zero := .agg [.str ⟨#[]⟩, .bool false, .str ⟨#[]⟩], flds := some [⟨0, 1, false⟩, ⟨1, 1, false⟩, ⟨2, 1, false⟩], bytes := 40, eqk := some [.str, .bool, .str] } := rfl
@[go_sem] theorem lte38 : lk 38 te = some { size := 1, agg := false, zero := .nils, elem := some (51, 2), bytes := 24 } := rfl
@[go_sem] theorem lte51 : lk 51 te = some { size := 2, agg := true, zero := .agg [.str ⟨#[]⟩, .str ⟨#[]⟩], flds := some [⟨0, 1, false⟩, ⟨1, 1, false⟩], bytes := 32, eqk := some [.str, .str] } := rfl
@[go_sem] theorem lte57 : lk 57 te = some { size := 1, agg := false, zero := .nils, elem := some (9, 1), bytes := 24 } := rfl
@[go_sem] theorem lte78 : lk 78 te = some { size := 1, agg := false, zero := .int .u64 0, ik := some .u64, bytes := 8 } := rfl
end

structure OpS where
  key : ByteArray
  dead : Bool
  val : ByteArray
  deriving DecidableEq
def OpS.pv (o : OpS) : PV := .agg [.str o.key, .bool o.dead, .str o.val]
structure TxnS where
  seq : Int
  ops : List OpS
def opsPV (l : List OpS) : PV := .sl (l.map OpS.pv)
def TxnS.pv (t : TxnS) : PV := .agg [.int .i64 t.seq, opsPV t.ops]
structure PairS where
  key : ByteArray
  val : ByteArray
  deriving DecidableEq
def PairS.pv (o : PairS) : PV := .agg [.str o.key, .str o.val]
def pairsPV (l : List PairS) : PV := .sl (l.map PairS.pv)
@[simp] theorem fits_pv (o : OpS) : fits 3 o.pv = true := rfl
@[simp] theorem csz_pv (o : OpS) : csz 3 o.pv = true := rfl
@[simp] theorem csz_ppv (o : PairS) : csz 2 o.pv = true := rfl
@[simp] theorem fits_ppv (o : PairS) : fits 2 o.pv = true := rfl
end Go.Proofs.Ytlflomhehhcfnaa
