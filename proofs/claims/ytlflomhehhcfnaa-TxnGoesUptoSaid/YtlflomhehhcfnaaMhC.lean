/- The operations that leave the world alone. -/
import Derived.Test.YtlflomhehhcfnaaMhB
namespace Go.Mh
open Go Go.RowKit

def byteAt (s : ByteArray) (i : Int) : Int := ((s.data.toList[i.toNat]?).getD 0).toNat

def evb (s : S) (x : Operand) : Option (Bool × Prop) :=
  match evp s x with
  | some (.bool b, o) => some (b, o)
  | _ => none

def intBin (op : BinOp) (k : IntKind) (a b : Int) : Option PV :=
  match op with
  | .add => some (.int k (k.wrap (a + b)))
  | .sub => some (.int k (k.wrap (a - b)))
  | .mul => some (.int k (k.wrap (a * b)))
  | .eql => some (.bool (a == b))
  | .neq => some (.bool (a != b))
  | .lss => some (.bool (decide (a < b)))
  | .leq => some (.bool (decide (a ≤ b)))
  | .gtr => some (.bool (decide (a > b)))
  | .geq => some (.bool (decide (a ≥ b)))
  | _ => none

def strBin (op : BinOp) (a b : ByteArray) : Option PV :=
  match op with
  | .eql => some (.bool (a.toList == b.toList))
  | .neq => some (.bool (!(a.toList == b.toList)))
  | .lss => some (.bool (Op.bytesLess a.toList b.toList))
  | .leq => some (.bool (Op.bytesLess a.toList b.toList || a.toList == b.toList))
  | .gtr => some (.bool (!(Op.bytesLess a.toList b.toList || a.toList == b.toList)))
  | .geq => some (.bool (!(Op.bytesLess a.toList b.toList)))
  | _ => none

def boolBin (op : BinOp) (a b : Bool) : Option PV :=
  match op with
  | .eql => some (.bool (a == b))
  | .neq => some (.bool (!(a == b)))
  | _ => none

def eqL : List EK → List PV → List PV → Option Bool
  | [], [], [] => some true
  | .int :: l, .int k a :: p, .int k' b :: q => if k = k' then (eqL l p q).map fun r => (a == b) && r else none
  | .bool :: l, .bool a :: p, .bool b :: q => (eqL l p q).map fun r => (a == b) && r
  | .str :: l, .str a :: p, .str b :: q => (eqL l p q).map fun r => (a.toList == b.toList) && r
  | _, _, _ => none
def aggBin (op : BinOp) (l : List EK) (p q : List PV) : Option PV :=
  match op with
  | .eql => (eqL l p q).map .bool
  | .neq => (eqL l p q).map fun r => .bool (!r)
  | _ => none
def intBinO (op : BinOp) (k : IntKind) (a b : Int) : Option (PV × Prop) :=
  match op with
  | .quo => some (.int k (k.wrap (a.tdiv b)), b ≠ 0)
  | .rem => some (.int k (a.tmod b), b ≠ 0)
  | _ => (intBin op k a b).map (·, True)
def shiftBin (op : BinOp) (k : IntKind) (a b : Int) : Option (PV × Prop) :=
  match op with
  | .shl => some (.int k (k.wrap (a * 2 ^ (min b.toNat k.bits))), 0 ≤ b)
  | .shr => some (.int k (a.fdiv (2 ^ (min b.toNat k.bits))), 0 ≤ b)
  | _ => none

/-- may a value be laid into cells? -/
def PV.flat : PV → Bool
  | .raw v => v.oneCell'
  | .tup _ => false
  | .opt _ _ => false
  | .any => false
  | _ => true

/-- a type's value out of cells -/
def mkAt (ti : TI) (l : List PV) (off : Nat) : Option PV :=
  if ti.agg = true then (if off + ti.size ≤ l.length ∧ 0 < ti.size then some (.agg ((l.drop off).take ti.size)) else none)
  else match l.drop off with
    | x :: _ => some x
    | [] => none

def fillL (z : List PV) (flds : List TF) : List (Nat × PV) → Option (List PV)
  | [] => some z
  | (i, v) :: rest =>
    match flds[i]? with
    | none => none
    | some f => if v.flat = true ∧ v.cells.length = f.size ∧ f.off + f.size ≤ z.length then fillL (z.take f.off ++ v.cells ++ z.drop (f.off + f.size)) flds rest else none

def evParts (s : S) : List (Nat × Operand) → Option (List (Nat × PV) × Prop)
  | [] => some ([], True)
  | (i, x) :: r =>
    match evp s x, evParts s r with
    | some (v, o), some (l, p) => some ((i, v) :: l, o ∧ p)
    | _, _ => none

def lenPV (s : S) : PV → Option Int
  | .sl xs => some xs.length
  | .nils => some 0
  | .str x => some x.size
  | .row e => (lk e s.r).map fun r => (r.xs.length : Int)
  | .rsl _ _ _ n => some (n : Int)
  | _ => none

def lenOk : PV → TI → Bool
  | .str _, ti => ti.isStr
  | _, ti => ti.elem.isSome

def csz (sz : Nat) (x : PV) : Bool := decide (x.cells.length = sz)
/-- A bound of a slice expression. -/
def evBd (s : S) (d : Int) : Option Operand → Option (Int × Prop)
  | none => some (d, True)
  | some x => match evp s x with
    | some (.int _ n, o) => some (n, o)
    | _ => none

def pop (E : TE) (s : S) : Op → Option (PV × Prop)
  | .move x => evp s x
  | .assign x => evp s x
  | .pick c a b =>
    match evp s c, evb s a, evb s b with
    | some (.bool cb, oc), some (x, oa), some (y, ob) => some (.bool (if cb = true then x else y), oc ∧ (cb = true → oa) ∧ (cb = false → ob))
    | _, _, _ => none
  | .load T p =>
    match evp s p, lk T E with
    | some (.eptr l, o), some ti => (mkAt ti l 0).map (·, o)
    | some (.ref id off, o), some ti => match lk id s.b with
      | some bx => (mkAt ti bx.l off).map (·, o)
      | none => none
    | some (.rptr e sz i f, o), some ti => match lk e s.r with
      | some r => if sz = r.sz then (mkAt ti (r.xs.getD i .nils).cells f).map (·, o ∧ i < r.xs.length) else none
      | none => none
    | _, _ => none
  | .fieldAddr T p f =>
    match evp s p, (lk T E).bind (·.flds) with
    | some (.eptr l, o), some fl => match fl[f]? with
      | some x => some (.eptr (l.drop x.off), o)
      | none => none
    | some (.ref id off, o), some fl => match fl[f]? with
      | some x => some (.ref id (off + x.off), o)
      | none => none
    | some (.rptr e sz i f', o), some fl => match fl[f]? with
      | some x => some (.rptr e sz i (f' + x.off), o)
      | none => none
    | _, _ => none
  | .field T x f =>
    match evp s x, (lk T E).bind (·.flds) with
    | some (.agg l, o), some fl => match fl[f]? with
      | some d => (mkAt { size := d.size, agg := d.agg, zero := .nils } l d.off).map (·, o)
      | none => none
    | _, _ => none
  | .indexAddr T x i =>
    match evp s x, evp s i, (lk T E).bind (·.elem) with
    | some (.sl xs, o1), some (.int _ n, o2), some (_, sz) =>
      some (.eptr (xs.getD n.toNat .nils).cells, o1 ∧ o2 ∧ 0 ≤ n ∧ n < (xs.length : Int) ∧ (xs.getD n.toNat .nils).cells.length = sz)
    | some (.row e, o1), some (.int _ n, o2), some (_, sz) => match lk e s.r with
      | some r => if sz = r.sz then some (if r.ex = true then .rptr e sz n.toNat 0 else .eptr (r.xs.getD n.toNat .nils).cells, o1 ∧ o2 ∧ 0 ≤ n ∧ n < (r.xs.length : Int)) else none
      | none => none
    | _, _, _ => none
  | .index T x i =>
    match evp s x, evp s i with
    | some (.str b, o1), some (.int _ n, o2) => if ((lk T E).map (·.isStr)) = some true then some (.int .u8 (byteAt b n), o1 ∧ o2 ∧ 0 ≤ n ∧ n < (b.size : Int)) else none
    | _, _ => none
  | .binOp op T x y _ =>
    match op with
    | .shl | .shr =>
      match evp s x, evp s y with
      | some (.int k a, o1), some (.int _ b, o2) => (shiftBin op k a b).map fun p => (p.1, o1 ∧ o2 ∧ p.2)
      | _, _ => none
    | _ =>
    match evp s x, evp s y with
    | some (.int k a, o1), some (.int k' b, o2) => if k = k' then (intBinO op k a b).map fun p => (p.1, o1 ∧ o2 ∧ p.2) else none
    | some (.str a, o1), some (.str b, o2) => (strBin op a b).map (·, o1 ∧ o2)
    | some (.bool a, o1), some (.bool b, o2) => if (lk T E).map (·.isBool) = some true then (boolBin op a b).map (·, o1 ∧ o2) else none
    | some (.agg p, o1), some (.agg q, o2) => match (lk T E).bind (·.eqk) with
      | some l => (aggBin op l p q).map (·, o1 ∧ o2)
      | none => none
    | _, _ => none
  | .unOp .not _ x =>
    match evp s x with
    | some (.bool b, o) => some (.bool (!b), o)
    | _ => none
  | .extract x i =>
    match evp s x with
    | some (.tup l, o) => (l[i]?).map (·, o)
    | _ => none
  | .build T parts =>
    match lk T E, evParts s parts.toList with
    | some ti, some (ps, o) => match ti.flds, ti.zero with
      | some fl, .agg z => (fillL z fl ps).map fun l => (.agg l, o)
      | _, _ => none
    | _, _ => none
  | .nilCheck x =>
    match evp s x with
    | some (.ref id off, o) => some (.ref id off, o)
    | some (.eptr l, o) => some (.eptr l, o)
    | some (.rptr e sz i f, o) => some (.rptr e sz i f, o)
    | _ => none
  | .convert src dst x =>
    match evp s x, lk src E, (lk dst E).bind (·.ik) with
    | some (.int _ n, o), some _, some k => some (.int k (k.wrap n), o)
    | _, _, _ => none
  | .slice T x lo hi none =>
    match evp s x with
    | some (.sl xs, o) => match (lk T E).bind (·.elem), evBd s 0 lo, evBd s xs.length hi with
      | some (_, sz), some (l, o1), some (h, o2) => some (.sl ((xs.take h.toNat).drop l.toNat), o ∧ o1 ∧ o2 ∧ 0 ≤ l ∧ l ≤ h ∧ h ≤ (xs.length : Int) ∧ xs.all (csz sz) = true)
      | _, _, _ => none
    | some (.nils, o) => match (lk T E).bind (·.elem), evBd s 0 lo, evBd s 0 hi with
      | some _, some (l, o1), some (h, o2) => some (.nils, o ∧ o1 ∧ o2 ∧ l = 0 ∧ h = 0)
      | _, _, _ => none
    | some (.row e, o) => match lk e s.r, (lk T E).bind (·.elem) with
      | some r, some _ => match evBd s 0 lo, evBd s r.xs.length hi with
        | some (l, o1), some (h, o2) => some (.any, o ∧ o1 ∧ o2 ∧ 0 ≤ l ∧ l ≤ h ∧ h ≤ (r.xs.length : Int))
        | _, _ => none
      | _, _ => none
    | some (.str b, o) => match (lk T E).map (·.isStr), evBd s 0 lo, evBd s b.size hi with
      | some true, some (l, o1), some (h, o2) => some (.str (b.extract l.toNat h.toNat), o ∧ o1 ∧ o2 ∧ 0 ≤ l ∧ l ≤ h ∧ h ≤ (b.size : Int))
      | _, _, _ => none
    | _ => none
  | .call c =>
    match c.callee, c.args.toList, c.argTypes.toList with
    | .builtin .len, [x], [T] => match evp s x, lk T E with
      | some (v, o), some ti => match lenPV s v with
        | some n => if lenOk v ti = true then some (.int .i64 n, o) else none
        | none => none
      | _, _ => none
    | _, _, _ => none
  | _ => none
end Go.Mh
