/- The pure operations do what 'pop' says. -/
import Derived.Test.YtlflomhehhcfnaaMhC
import Derived.Laws.StructEq
import Derived.Laws.Small
namespace Go.Mh
open Go Go.RowKit
variable {P : Program} {E : TE} {c : Ctx} {s : S} {g : G} {a : Act}

theorem ty_size {T : Nat} {ti : TI} (h : TyOK P T ti) (w : World) : (sizeOf T).run P w = .ok ti.size w := by
  obtain ⟨i, z, hi, hs, _⟩ := h.info
  simp [sizeOf, typeInfo, hi, hs]
theorem ty_agg {T : Nat} {ti : TI} (h : TyOK P T ti) (w : World) : (isAgg T).run P w = .ok ti.agg w := by
  obtain ⟨d, hd, hr⟩ := h.row
  unfold isAgg
  rw [Sem.run_bind, run_underlying hd w, ← hr]
  cases d <;> rfl
theorem size_of_map {T n : Nat} (h : (P.info? T).map (·.size) = some n) (w : World) : (sizeOf T).run P w = .ok n w := by
  cases hq : P.info? T with
  | none => rw [hq] at h; cases h
  | some i => rw [hq] at h; simp at h; simp [sizeOf, typeInfo, hq, h]

theorem run_load_cells {T : Nat} {ti : TI} (h : TyOK P T ti) (ha : ti.agg = true) (w : World) (ad : Addr) (vs : List Value) (hl : vs.length = ti.size)
    (hc : ∀ (j : Nat) v, vs[j]? = some v → w.cell? (ad.add j) = some v) : (Instr.loadAt T (.pointer (some ad))).run P w = .ok (.agg vs.toArray) w := by
  have := run_loadCells_list (P := P) w ad vs hc
  simp only [Instr.loadAt, Instr.sureAddr, loadVar, Sem.run_bind, Sem.run_pure, Result.andThen_ok, ty_agg h, ha, if_true, ty_size h, ← hl, this]
theorem run_load_one {T : Nat} {ti : TI} (h : TyOK P T ti) (ha : ti.agg = false) (w : World) (ad : Addr) (v : Value)
    (hc : w.cell? ad = some v) : (Instr.loadAt T (.pointer (some ad))).run P w = .ok v w := by
  simp [Instr.loadAt, Instr.sureAddr, loadVar, ty_agg h, ha, hc]

theorem add_zero' (ad : Addr) : ad.add 0 = ad := by simp [Addr.add]
theorem add_add' (ad : Addr) (m n : Nat) : (ad.add m).add n = ad.add (m + n) := by
  unfold Addr.add
  by_cases hm : m = 0 <;> by_cases hn : n = 0 <;> simp [hm, hn, Nat.add_assoc]

/-- A world in which all that was readable is. -/
def Ext (w w' : World) : Prop := ∀ x u, w.cell? x = some u → w'.cell? x = some u
/-- Does an operation look at memory? -/
def isLoad : Op → Bool
  | .load _ _ => true
  | _ => false
def Ex (o : Oper) (w w' : World) : Prop := isLoad o.op = true → Ext w w'
theorem Ex.refl (o : Oper) (w : World) : Ex o w w := fun _ _ _ h => h
theorem Ex.of {o : Oper} {w w' : World} (h : Ext w w') : Ex o w w' := fun _ => h
/-- What a load makes of a list of cells. -/
theorem mkAt_load {T : Nat} {ti : TI} (h : TyOK P T ti) {l : List PV} {off : Nat} {pv : PV} (hm : mkAt ti l off = some pv) (ad : Addr) (u : Nat → Value)
    (hv : ∀ (j : Nat) p, l[j]? = some p → V1 g p (u j)) :
    ∃ v, (∀ w', (∀ j, off ≤ j → j < l.length → w'.cell? (ad.add (j - off)) = some (u j)) → (Instr.loadAt T (.pointer (some ad))).run P w' = .ok v w') ∧ V3 g pv v := by
  unfold mkAt at hm
  split at hm
  · rename_i ha
    split at hm
    · rename_i hl
      cases hm
      have hlen : ((List.range ti.size).map fun j => u (off + j)).length = ti.size := by simp
      refine ⟨_, fun w' hc => run_load_cells h ha w' ad _ hlen (fun j v hj => ?_), ?_⟩
      · have hjs : j < ti.size := by have := (List.getElem?_eq_some_iff.1 hj).1; simpa using this
        simp [List.getElem?_map, List.getElem?_range hjs] at hj
        have := hc (off + j) (by omega) (by omega)
        rw [Nat.add_sub_cancel_left] at this
        rw [this, hj]
      · refine ⟨_, rfl, ?_, fun i p v h1 h2 => ?_⟩
        · simp; omega
        · have his : i < ti.size := by have := (List.getElem?_eq_some_iff.1 h2).1; simpa using this
          simp [List.getElem?_map, List.getElem?_range his] at h2
          subst h2
          rw [List.getElem?_take_of_lt his, List.getElem?_drop] at h1
          exact hv _ _ h1
    · cases hm
  · rename_i ha
    cases hd : l.drop off with
    | nil => rw [hd] at hm; cases hm
    | cons x r =>
      rw [hd] at hm
      cases hm
      have h0 : l[off]? = some pv := by
        have := congrArg (fun q => q[0]?) hd
        simpa using this
      have hlt := (List.getElem?_eq_some_iff.1 h0).1
      refine ⟨_, fun w' hc => ?_, .of1 (hv off pv h0)⟩
      have hc0 := hc off (Nat.le_refl _) hlt
      rw [Nat.sub_self, add_zero'] at hc0
      exact run_load_one h (by simpa using ha) w' ad _ hc0

theorem evb_sound (h : Rel c s g a) {x : Operand} {b : Bool} {ob : Prop} (he : evb s x = some (b, ob)) (hob : ob) : a.eval x = .bool b := by
  unfold evb at he
  split at he
  · rename_i b' o hx
    cases he
    have := evp_sound h hx hob
    have this : RRel g.w g.mu (.bool b) (a.eval x) := this
    generalize a.eval x = v at this ⊢
    cases this
    rfl
  · cases he

/-- A value's forms, read off what it stands for. -/
theorem inv_int {k : IntKind} {n : Int} {v : Value} (h : V3 g (.int k n) v) : v = .int k n := by
  have h : RRel g.w g.mu (.int k n) v := h
  cases h; rfl
theorem inv_bool {b : Bool} {v : Value} (h : V3 g (.bool b) v) : v = .bool b := by
  have h : RRel g.w g.mu (.bool b) v := h
  cases h; rfl
theorem inv_str {b : ByteArray} {v : Value} (h : V3 g (.str b) v) : v = .string b := by
  have h : RRel g.w g.mu (.str b) v := h
  cases h; rfl
theorem inv_nils {v : Value} (h : V3 g .nils v) : v = .slice none 0 0 := by
  have h : RRel g.w g.mu .nils v := h
  cases h; rfl
theorem inv_ref {i o : Nat} {v : Value} (h : V3 g (.ref i o) v) : v = .pointer (some ⟨g.β i, o, none⟩) := h
theorem inv_eptr {l : List PV} {v : Value} (h : V3 g (.eptr l) v) : ∃ (ad : Addr) (u : Nat → Value), v = .pointer (some ad) ∧ (∀ j, j < l.length → ¬ g.mu (ad.add j) ∧ g.w.cell? (ad.add j) = some (u j)) ∧
      ∀ (j : Nat) pv, l[j]? = some pv → RRel g.w g.mu pv (u j) := by
  have h : RRel g.w g.mu (.eptr l) v := h
  cases h with
  | eptr l ad u hA h' => exact ⟨ad, u, rfl, hA, h'⟩
theorem inv_sl {xs : List PV} {v : Value} (h : V3 g (.sl xs) v) : ∃ (A : Option Addr) (c sz : Nat) (u : Nat → Nat → Value), v = .slice A xs.length c ∧ xs.length ≤ c ∧ c ≤ maxLen ∧ (∀ x ∈ xs, x.cells.length = sz) ∧
      (xs ≠ [] → ∃ ad, A = some ad ∧ ∀ i j, i < xs.length → j < sz → ¬ g.mu (ad.add (i * sz + j)) ∧ g.w.cell? (ad.add (i * sz + j)) = some (u i j)) ∧
      ∀ (i j : Nat) x pv, xs[i]? = some x → x.cells[j]? = some pv → RRel g.w g.mu pv (u i j) := by
  have h : RRel g.w g.mu (.sl xs) v := h
  cases h with
  | sl xs A cc sz u hc hm hsz hA h' => exact ⟨A, cc, sz, u, rfl, hc, hm, hsz, hA, h'⟩

/-! ### Each kind of operation -/
theorem ba_size (b : ByteArray) : b.data.toList.length = b.size := by rw [Array.length_toList]; rfl

def valPV : PV → Value
  | .int k n => .int k n
  | .bool b => .bool b
  | .str s => .string s
  | .raw v => v
  | .nils => .slice none 0 0
  | _ => undef

theorem intBin_sound {op : BinOp} (h1 : op ≠ .shl) (h2 : op ≠ .shr) {k : IntKind} {x y : Int} {pv : PV} (h : intBin op k x y = some pv) (T : TypeId) (X Y : Operand) (w : World) :
    (eqGuard op T X Y (.int k x) (.int k y)).run P w = .ok () w ∧ (binOp op T (.int k x) (.int k y)).run P w = .ok (valPV pv) w ∧ V3 g pv (valPV pv) := by
  cases op <;> simp only [intBin, Option.some.injEq, reduceCtorEq] at h <;> first
    | exact absurd rfl h1 | exact absurd rfl h2
    | (subst h; exact ⟨by simp [eqGuard], by simp [binOp, Op.intArith, Op.intCmp, valPV], RRel.int _ _⟩)
    | (subst h; exact ⟨by simp [eqGuard], by simp [binOp, Op.intArith, Op.intCmp, valPV], RRel.bool _⟩)

theorem intBinO_sound {op : BinOp} (h1 : op ≠ .shl) (h2 : op ≠ .shr) {k : IntKind} {x y : Int} {pv : PV} {ob : Prop} (h : intBinO op k x y = some (pv, ob)) (hob : ob) (T : TypeId) (X Y : Operand) (w : World) :
    (eqGuard op T X Y (.int k x) (.int k y)).run P w = .ok () w ∧ (binOp op T (.int k x) (.int k y)).run P w = .ok (valPV pv) w ∧ V3 g pv (valPV pv) := by
  unfold intBinO at h
  split at h
  · cases h
    exact ⟨by simp [eqGuard], by simp [binOp, Op.intDiv, valPV, hob], RRel.int _ _⟩
  · cases h
    exact ⟨by simp [eqGuard], by simp [binOp, Op.intDiv, valPV, hob], RRel.int _ _⟩
  · rw [Option.map_eq_some_iff] at h
    obtain ⟨q, hq, e⟩ := h
    cases e
    exact intBin_sound h1 h2 hq T X Y w
theorem shiftBin_sound {op : BinOp} {k k' : IntKind} {x y : Int} {pv : PV} {ob : Prop} (h : shiftBin op k x y = some (pv, ob)) (hob : ob) (T : TypeId) (X Y : Operand) (w : World) :
    (eqGuard op T X Y (.int k x) (.int k' y)).run P w = .ok () w ∧ (binOp op T (.int k x) (.int k' y)).run P w = .ok (valPV pv) w ∧ V3 g pv (valPV pv) := by
  unfold shiftBin at h
  split at h
  · cases h
    exact ⟨by simp [eqGuard], by simp [binOp, Op.shift, valPV, Int.not_lt.2 hob], RRel.int _ _⟩
  · cases h
    exact ⟨by simp [eqGuard], by simp [binOp, Op.shift, valPV, Int.not_lt.2 hob], RRel.int _ _⟩
  · cases h
theorem boolBin_sound {op : BinOp} {x y : Bool} {pv : PV} (h : boolBin op x y = some pv) {T : TypeId} (hT : P.underlying T = some .bool) (X Y : Operand) (w : World) :
    (eqGuard op T X Y (.bool x) (.bool y)).run P w = .ok () w ∧ (binOp op T (.bool x) (.bool y)).run P w = .ok (valPV pv) w ∧ V3 g pv (valPV pv) := by
  have he : (Op.equal T (.bool x) (.bool y)).run P w = .ok (x == y) w := run_equalIn_bool' w 9999 T x y hT
  unfold boolBin at h
  split at h
  · cases h
    exact ⟨by simp [eqGuard], by simp [binOp, valPV, he], RRel.bool _⟩
  · cases h
    exact ⟨by simp [eqGuard], by simp [binOp, valPV, he], RRel.bool _⟩
  · cases h

theorem eqL_sound (d : Nat) (w : World) : ∀ {l : List EK} {fs : List Field} {i : Nat} {p q : List PV} {b : Bool} {vs us : List Value}, ekOk P i l fs = true → eqL l p q = some b →
    vs.length = i + p.length → us.length = i + q.length → (∀ (j : Nat) x v, p[j]? = some x → vs[i + j]? = some v → V1 g x v) → (∀ (j : Nat) x v, q[j]? = some x → us[i + j]? = some v → V1 g x v) →
    (Op.eqFields (d + 1) vs.toArray us.toArray fs).run P w = .ok b w
  | [], [], i, [], [], b, vs, us, _, h, _, _, _, _ => by cases h; simp [Op.eqFields]
  | k :: l, f :: fs, i, x :: p, y :: q, b, vs, us, hk, h, hl, hm, hp, hq => by
    have hk : ((f.name != "_") && decide (f.offset = i) && ekOne k (P.underlying f.type) && ekOk P (i + 1) l fs) = true := hk
    simp only [Bool.and_eq_true, decide_eq_true_eq] at hk
    obtain ⟨⟨⟨h1, h2⟩, h3⟩, h4⟩ := hk
    have hi : i < vs.length := by simp at hl; omega
    have hi' : i < us.length := by simp at hm; omega
    have hx : V1 g x vs[i] := hp 0 x vs[i] rfl (List.getElem?_eq_getElem hi)
    have hy : V1 g y us[i] := hq 0 y us[i] rfl (List.getElem?_eq_getElem hi')
    have ih : ∀ {r}, eqL l p q = some r → (Op.eqFields (d + 1) vs.toArray us.toArray fs).run P w = .ok r w := fun hr =>
      eqL_sound d w h4 hr (by simp at hl; omega) (by simp at hm; omega) (fun j x v a b => hp (j + 1) x v (by simpa using a) (by rw [← b]; congr 1; omega)) (fun j x v a b => hq (j + 1) x v (by simpa using a) (by rw [← b]; congr 1; omega))
    have hnm : f.name ≠ "_" := by simpa using h1
    have fin : ∀ {r r' : Bool}, (∃ ds, P.underlying f.type = some ds ∧ ds.isRow = false) → (Op.equalIn (d + 1) f.type vs[i] us[i]).run P w = .ok r' w → eqL l p q = some r → b = (r' && r) →
        (Op.eqFields (d + 1) vs.toArray us.toArray (f :: fs)).run P w = .ok b w := by
      intro r r' ⟨ds, hds, hrow⟩ he hr hb
      have hag : (isAgg f.type).run P w = .ok false w := by
        unfold isAgg
        rw [Sem.run_bind, run_underlying hds w, ← hrow]
        cases ds <;> rfl
      have hpv : (part f.type vs.toArray f.offset).run P w = .ok vs[i] w := by
        simp [part, hag, h2, List.getElem?_eq_getElem hi]
      have hpu : (part f.type us.toArray f.offset).run P w = .ok us[i] w := by
        simp [part, hag, h2, List.getElem?_eq_getElem hi']
      subst hb
      cases r' with
      | true => simp [Op.eqFields, hnm, hpv, hpu, he, ih hr]
      | false => simp [Op.eqFields, hnm, hpv, hpu, he]
    cases k with
    | int =>
      cases x <;> cases y <;> first | (cases h; done) | skip
      rename_i k1 a k2 b'
      have h9 : (if k1 = k2 then (eqL l p q).map fun r => (a == b') && r else none) = some b := h
      by_cases e : k1 = k2
      · rw [if_pos e] at h9
        subst e
        obtain ⟨r, hr, e⟩ := Option.map_eq_some_iff.1 h9
        unfold ekOne at h3
        split at h3
        · rename_i kk hu
          have ex := inv_int (g := g) (V3.of1 hx)
          have ey := inv_int (g := g) (V3.of1 hy)
          exact fin ⟨_, hu, rfl⟩ (by rw [ex, ey]; exact run_equalIn_int w d f.type _ _ a b' hu) hr e.symm
        · rename_i e1 _; cases e1
        · rename_i e1 _; cases e1
        · cases h3
      · rw [if_neg e] at h9; cases h9
    | bool =>
      cases x <;> cases y <;> first | (cases h; done) | skip
      rename_i a b'
      obtain ⟨r, hr, e⟩ := Option.map_eq_some_iff.1 h
      unfold ekOne at h3
      split at h3
      · rename_i e1 _; cases e1
      · rename_i hu
        have ex := inv_bool (g := g) (V3.of1 hx)
        have ey := inv_bool (g := g) (V3.of1 hy)
        exact fin ⟨_, hu, rfl⟩ (by rw [ex, ey]; exact run_equalIn_bool' w d f.type a b' hu) hr e.symm
      · rename_i e1 _; cases e1
      · cases h3
    | str =>
      cases x <;> cases y <;> first | (cases h; done) | skip
      rename_i a b'
      obtain ⟨r, hr, e⟩ := Option.map_eq_some_iff.1 h
      unfold ekOne at h3
      split at h3
      · rename_i e1 _; cases e1
      · rename_i e1 _; cases e1
      · rename_i hu
        have ex := inv_str (g := g) (V3.of1 hx)
        have ey := inv_str (g := g) (V3.of1 hy)
        exact fin ⟨_, hu, rfl⟩ (by rw [ex, ey]; exact run_equalIn_string w d f.type a b' hu) hr e.symm
      · cases h3
  | [], _ :: _, _, _, _, _, _, _, hk, _, _, _, _, _ => by cases hk
  | _ :: _, [], _, _, _, _, _, _, hk, _, _, _, _, _ => by cases hk
  | [], [], _, _ :: _, _, _, _, _, _, h, _, _, _, _ => by cases h
  | [], [], _, [], _ :: _, _, _, _, _, h, _, _, _, _ => by cases h
  | k :: _, _ :: _, _, [], _, _, _, _, _, h, _, _, _, _ => by cases k <;> cases h
  | k :: _, _ :: _, _, x :: _, [], _, _, _, _, h, _, _, _, _ => by cases k <;> cases x <;> cases h

theorem aggBin_sound {op : BinOp} {T : TypeId} {ti : TI} {l : List EK} (hT : TyOK P T ti) (hl : ti.eqk = some l) {p q : List PV} {pv : PV} (h : aggBin op l p q = some pv) {u v : Value} (hu : V3 g (.agg p) u) (hv : V3 g (.agg q) v) (X Y : Operand) (w : World) :
    (eqGuard op T X Y u v).run P w = .ok () w ∧ (binOp op T u v).run P w = .ok (valPV pv) w ∧ V3 g pv (valPV pv) := by
  obtain ⟨fs, hf, hk, hs, hg⟩ := hT.eqk l hl
  obtain ⟨us, rfl, hul, hui⟩ := hu
  obtain ⟨vs, rfl, hvl, hvi⟩ := hv
  have hfo : P.fieldsOf T = fs := by simp [Program.fieldsOf, hf]
  have key : ∀ {b}, eqL l p q = some b → (Op.equalIn 10000 T (.agg us.toArray) (.agg vs.toArray)).run P w = .ok b w := by
    intro b hb
    rw [show (10000 : Nat) = 9999 + 1 from rfl, run_equalIn_struct w 9999 T _ _ (by rw [hfo]; exact hf) hs, hfo]
    exact eqL_sound (g := g) 9998 w hk hb (by omega) (by omega) (fun j x v a b => hui j x v a (by rw [← b]; congr 1; omega)) (fun j x v a b => hvi j x v a (by rw [← b]; congr 1; omega))
  refine ⟨run_eqGuard_agg w op T X Y _ _ hg, ?_⟩
  unfold aggBin at h
  split at h
  · rw [Option.map_eq_some_iff] at h
    obtain ⟨b, hb, rfl⟩ := h
    exact ⟨by rw [run_eql_struct, key hb]; rfl, RRel.bool _⟩
  · rw [Option.map_eq_some_iff] at h
    obtain ⟨b, hb, rfl⟩ := h
    exact ⟨by rw [run_neq_struct, key hb]; rfl, RRel.bool _⟩
  · cases h

theorem strBin_sound {op : BinOp} {x y : ByteArray} {pv : PV} (h : strBin op x y = some pv) (T : TypeId) (X Y : Operand) (w : World) :
    (eqGuard op T X Y (.string x) (.string y)).run P w = .ok () w ∧ (binOp op T (.string x) (.string y)).run P w = .ok (valPV pv) w ∧ V3 g pv (valPV pv) := by
  cases op <;> simp only [strBin, Option.some.injEq, reduceCtorEq] at h <;>
    (subst h; exact ⟨by simp [eqGuard], by simp [binOp, Op.stringOp, valPV], RRel.bool _⟩)

theorem fldOk_at : ∀ {l : List TF} {fs : List Field} {f : Nat} {x : TF}, fldOk P l fs = true → l[f]? = some x →
    ∃ fd, fs[f]? = some fd ∧ fd.offset = x.off ∧ (P.info? fd.type).map (·.size) = some x.size ∧ x.size ≠ 0 ∧ ∃ d, P.underlying fd.type = some d ∧ d.isRow = x.agg
  | [], _, _, _, _, h => by simp at h
  | y :: l, [], _, _, h, _ => by cases h
  | y :: l, fd :: r, f, x, h, hf => by
    have h : (decide (fd.offset = y.off) && decide ((P.info? fd.type).map (·.size) = some y.size) && decide (y.size ≠ 0) &&
      (match P.underlying fd.type with | some d => decide (d.isRow = y.agg) | none => false) && fldOk P l r) = true := h
    simp only [Bool.and_eq_true, decide_eq_true_eq] at h
    obtain ⟨⟨⟨⟨h1, h2⟩, h3⟩, h4⟩, h5⟩ := h
    cases f with
    | zero =>
      simp at hf
      subst hf
      refine ⟨fd, rfl, h1, h2, h3, ?_⟩
      split at h4
      · rename_i d hd; exact ⟨d, hd, by simpa using h4⟩
      · cases h4
    | succ f => simp at hf; simpa using fldOk_at h5 hf

theorem run_fieldAt {T f : Nat} {ti : TI} {fl : List TF} {x : TF} (h : TyOK P T ti) (hf : ti.flds = some fl) (hx : fl[f]? = some x) (ad : Addr) (w : World) :
    (Instr.fieldAt T (.pointer (some ad)) f).run P w = .ok (.pointer (some (ad.add x.off))) w := by
  obtain ⟨fs, hu, ho⟩ := h.flds fl hf
  obtain ⟨fd, h1, h2, h3, h4, _⟩ := fldOk_at ho hx
  rw [Array.getElem?_toList] at h1
  simp [Instr.fieldAt, run_underlying hu, h1, Instr.sureAddr, fieldPlace, size_of_map h3, h4, h2]
end Go.Mh
