/- 'pop' is sound: the rest, and all in one. -/
import Derived.Test.YtlflomhehhcfnaaMhF
import Derived.Laws.Slices
namespace Go.Mh
open Go Go.RowKit
variable {P : Program} {E : TE} {c : Ctx} {s : S} {g : G} {a : Act}

theorem pop_build (hE : TEOK P E) (hR : Rel c s g a) {o : Oper} {T : TypeId} {ps : Array (Nat × Operand)} (ho : o.op = .build T ps) {pv : PV} {ob : Prop} (h : pop E s (.build T ps) = some (pv, ob)) (hob : ob) :
    ∃ v, (∀ w', Ex o g.w w' → (execOp a.eval o).run P w' = .ok (.value v) w') ∧ V3 g pv v := by
  simp only [pop] at h
  split at h
  · rename_i ti l o' ht hp
    split at h
    · rename_i fl zl hf hzl
      rw [Option.map_eq_some_iff] at h
      obtain ⟨m, hm, e⟩ := h
      cases e
      obtain ⟨i, z, hi, hs, _, hz, hzv⟩ := (hE _ _ ht).info
      obtain ⟨fs, hu, hok⟩ := (hE _ _ ht).flds fl hf
      have hev := evParts_sound hR hp hob
      have hz0 := hzv g
      rw [hzl] at hz0
      obtain ⟨zs, rfl, hzl2, hzr⟩ := hz0
      obtain ⟨out, hfill, hol, hov⟩ := fill_sound (g := g) hR.rho (vs := ps.toList.map fun x => (x.1, a.eval x.2)) (cs := zs) hm hzl2 hzr hev
      refine ⟨.agg out.toArray, fun w' _ => ?_, out, rfl, hol, hov⟩
      have hb : P.built T (ps.map fun (i, x) => (i, a.eval x)).toList = some out.toArray := by
        unfold Program.built
        simp only [hi, hu, hz, places_opt hok, Value.cells]
        rw [← hfill]
        simp
      simp [execOp, ho, run_build w' T _ _ hb]
    · cases h
  · cases h

theorem evBd_sound (hR : Rel c s g a) {d n : Int} {x : Option Operand} {ob : Prop} (h : evBd s d x = some (n, ob)) (hob : ob) : (x = none ∧ n = d) ∨ ∃ y k, x = some y ∧ a.eval y = .int k n := by
  unfold evBd at h
  split at h
  · cases h; exact .inl ⟨rfl, rfl⟩
  · rename_i y
    split at h
    · rename_i k m o hy
      cases h
      exact .inr ⟨y, k, rfl, inv_int (evp_sound hR hy hob)⟩
    · cases h

theorem run_sl (hR : Rel c s g a) {T e sz : Nat} (ht : P.underlying T = some (.slice e)) (hs : (P.info? e).map (·.size) = some sz) {A : Option Addr} {n cp : Nat} {lo hi : Option Operand} {l h : Int} {o1 o2 : Prop}
    (h1 : evBd s 0 lo = some (l, o1)) (h2 : evBd s n hi = some (h, o2)) (k1 : o1) (k2 : o2) (h0 : 0 ≤ l) (hl : l ≤ h) (hh : h ≤ (cp : Int)) (w : World) :
    (Instr.sliceAt T (.slice A n cp) (lo.map a.eval) (hi.map a.eval) none).run P w = .ok (sliced A l.toNat h.toNat cp sz) w := by
  have ht' : P.underlying T = some (.slice (P.elem T)) := by simp [Program.elem, ht]
  have he : P.elem T = e := by simp [Program.elem, ht]
  have hz : (sizeOf (P.elem T)).run P w = .ok sz w := by rw [he]; exact size_of_map hs w
  rw [run_sliceAt_slice w T _ _ _ _ ht']
  rcases evBd_sound hR h1 k1 with ⟨rfl, rfl⟩ | ⟨y, k, rfl, e1⟩ <;> rcases evBd_sound hR h2 k2 with ⟨rfl, rfl⟩ | ⟨y', k', rfl, e2⟩
  · simp [run_slice_all w T A n cp ht', hz]
  · simp only [Option.map_none, Option.map_some, e2]
    rw [run_slice_h w T A n cp ht' k' h (by omega) hh, hz]
    rfl
  · simp only [Option.map_none, Option.map_some, e1]
    rw [run_slice_l w T A n cp ht' k l h0 hl, hz]
    simp
  · simp only [Option.map_some, e1, e2]
    rw [run_slice_lh w T A n cp ht' k k' l h h0 hl hh, hz]
    rfl

theorem pop_slice (hE : TEOK P E) (hR : Rel c s g a) {o : Oper} {T : TypeId} {x : Operand} {lo hi : Option Operand} (ho : o.op = .slice T x lo hi none) {pv : PV} {ob : Prop} (h : pop E s (.slice T x lo hi none) = some (pv, ob)) (hob : ob) :
    ∃ v, (∀ w', Ex o g.w w' → (execOp a.eval o).run P w' = .ok (.value v) w') ∧ V3 g pv v := by
  have hx : ∀ v w', (Instr.sliceAt T (a.eval x) (lo.map a.eval) (hi.map a.eval) none).run P w' = .ok v w' → (execOp a.eval o).run P w' = .ok (.value v) w' := by
    intro v w' hv
    simp [execOp, ho, hv]
  simp only [pop] at h
  split at h
  · rename_i xs o0 hp
    split at h
    · rename_i e sz l o1 h' o2 ht hl hh
      rw [Option.bind_eq_some_iff] at ht
      obtain ⟨ti, ht, hel⟩ := ht
      cases h
      obtain ⟨k0, k1, k2, k3, k4, k5, k6⟩ := hob
      obtain ⟨hun, hsize⟩ := (hE _ _ ht).elem _ _ hel
      have hv0 := evp_sound hR hp k0
      obtain ⟨A, cc, sz', u, e1, hc, hm, hsz, hA, hu⟩ := inv_sl hv0
      refine ⟨sliced A l.toNat h'.toNat cc sz, fun w' _ => hx _ w' (by rw [e1]; exact run_sl hR hun hsize hl hh k1 k2 k3 k4 (by omega) w'), ?_⟩
      have hlen : ((xs.take h'.toNat).drop l.toNat).length = h'.toNat - l.toNat := by simp; omega
      unfold sliced
      rw [← hlen]
      by_cases hne : (xs.take h'.toNat).drop l.toNat = []
      · rw [hne]
        exact (RRel.sl [] (if cc = l.toNat then A else A.map (·.add (l.toNat * sz))) (cc - l.toNat) 0 (fun _ _ => undef) (Nat.zero_le _) (by omega) (fun y hy => by cases hy) (fun h => absurd rfl h) (fun i j y p h => by simp at h) : RRel g.w g.mu _ _)
      · have hpos : 0 < h'.toNat - l.toNat := by rw [← hlen]; exact List.length_pos_iff.2 hne
        have hxne : xs ≠ [] := by intro h; subst h; simp at hne
        obtain ⟨ad, rfl, hcell⟩ := hA hxne
        have hss : sz' = sz := by
          obtain ⟨y, hy⟩ := List.exists_mem_of_ne_nil _ hxne
          rw [← hsz y hy]
          have := List.all_eq_true.1 k6 y hy
          simpa [csz] using this
        subst hss
        rw [if_neg (by omega)]
        have hidx : ∀ i y, ((xs.take h'.toNat).drop l.toNat)[i]? = some y → xs[l.toNat + i]? = some y := fun i y hy => by
          rw [List.getElem?_drop] at hy
          have hlt := (List.getElem?_eq_some_iff.1 hy).1
          rw [List.length_take] at hlt
          rwa [List.getElem?_take_of_lt (by omega)] at hy
        refine (RRel.sl ((xs.take h'.toNat).drop l.toNat) ((some ad).map (·.add (l.toNat * sz'))) (cc - l.toNat) sz' (fun i j => u (l.toNat + i) j) (by rw [hlen]; omega) (by omega) (fun y hy => hsz y (List.mem_of_mem_take (List.mem_of_mem_drop hy))) (fun _ => ⟨_, rfl, fun i j hi hj => ?_⟩) (fun i j y p hy hp' => hu _ j y p (hidx i y hy) hp') : RRel g.w g.mu _ _)
        rw [hlen] at hi
        rw [add_add']
        have := hcell (l.toNat + i) j (by omega) hj
        rw [Nat.add_mul, Nat.add_assoc] at this
        exact this
    · cases h
  · rename_i o0 hp
    split at h
    · rename_i p l o1 h' o2 ht hl hh
      rw [Option.bind_eq_some_iff] at ht
      obtain ⟨ti, ht, hel⟩ := ht
      cases h
      obtain ⟨k0, k1, k2, k3, k4⟩ := hob
      subst k3
      subst k4
      obtain ⟨hun, hsize⟩ := (hE _ _ ht).elem _ _ hel
      have hv0 := inv_nils (evp_sound hR hp k0)
      refine ⟨.slice none 0 0, fun w' _ => hx _ w' ?_, RRel.nils⟩
      rw [hv0]
      have := run_sl hR hun hsize (A := none) (n := 0) (cp := 0) hl (by simpa using hh) k1 k2 (Int.le_refl _) (Int.le_refl _) (Int.le_refl _) w'
      simpa [sliced] using this
    · cases h
  · rename_i e o0 hp
    split at h
    · rename_i r p hr ht
      rw [Option.bind_eq_some_iff] at ht
      obtain ⟨ti, ht, hel⟩ := ht
      split at h
      · rename_i l o1 h' o2 hl hh
        cases h
        obtain ⟨k0, k1, k2, k3, k4, k5⟩ := hob
        obtain ⟨hun, hsize⟩ := (hE _ _ ht).elem p.1 p.2 hel
        have e1 : a.eval x = g.ρ e := evp_sound hR hp k0
        obtain ⟨cs, hown, _⟩ := hR.rows e r hr
        rcases hown.2 with ⟨h0, h1⟩ | ⟨gg, cap, cur, hval, _, _, hn, _⟩
        · rw [h1] at hh k5
          exact ⟨_, fun w' _ => hx _ w' (by rw [e1, h0]; exact run_sl hR hun hsize hl hh k1 k2 k3 k4 k5 w'), trivial⟩
        · exact ⟨_, fun w' _ => hx _ w' (by rw [e1, hval]; exact run_sl hR hun hsize hl hh k1 k2 k3 k4 (by omega) w'), trivial⟩
      · cases h
    · cases h
  · rename_i b o0 hp
    split at h
    · rename_i l o1 h' o2 ht hl hh
      rw [Option.map_eq_some_iff] at ht
      obtain ⟨ti, ht, hs⟩ := ht
      cases h
      obtain ⟨k0, k1, k2, k3, k4, k5⟩ := hob
      have hun := (hE _ _ ht).isStr hs
      have e1 := inv_str (evp_sound hR hp k0)
      refine ⟨.string (b.extract l.toNat h'.toNat), fun w' _ => hx _ w' ?_, RRel.str _⟩
      rw [e1, run_sliceAt_string w' T _ _ _ _ hun]
      have hb1 : ((b.size : Int)).toNat = b.size := by omega
      rcases evBd_sound hR hl k1 with ⟨rfl, rfl⟩ | ⟨y, k, rfl, q1⟩ <;> rcases evBd_sound hR hh k2 with ⟨rfl, rfl⟩ | ⟨y', k', rfl, q2⟩
      · simp [Instr.slice, run_underlying hun, Instr.sliceBounds]
      · simp [Instr.slice, run_underlying hun, Instr.sliceBounds, q2, run_sliceBound w' k' h' b.size _ (by omega) k5]
      · simp [Instr.slice, run_underlying hun, Instr.sliceBounds, q1, run_sliceBound w' k l b.size _ k3 k4]
      · simp [Instr.slice, run_underlying hun, Instr.sliceBounds, q1, q2, run_sliceBound w' k' h' b.size _ (by omega) k5, run_sliceBound w' k l h'.toNat _ k3 (by omega)]
    · cases h
  · cases h

theorem pop_sound (hE : TEOK P E) (hR : Rel c s g a) {o : Oper} {pv : PV} {ob : Prop} (h : pop E s o.op = some (pv, ob)) (hob : ob) :
    ∃ v, (∀ w', Ex o g.w w' → (execOp a.eval o).run P w' = .ok (.value v) w') ∧ V3 g pv v := by
  cases ho : o.op <;> rw [ho] at h
  case move x =>
    exact ⟨_, fun w' _ => by simp [execOp, ho], evp_sound hR h hob⟩
  case assign x =>
    exact ⟨_, fun w' _ => by simp [execOp, ho], evp_sound hR h hob⟩
  case pick cc x y =>
    simp only [pop] at h
    split at h
    · rename_i cb oc bx oa bb ob' hc hx hy
      cases h
      obtain ⟨h1, h2, h3⟩ := hob
      have e1 := inv_bool (evp_sound hR hc h1)
      cases cb with
      | true => exact ⟨_, fun w' _ => by simp [execOp, ho, e1, asBool, evb_sound hR hx (h2 rfl)], RRel.bool _⟩
      | false => exact ⟨_, fun w' _ => by simp [execOp, ho, e1, asBool, evb_sound hR hy (h3 rfl)], RRel.bool _⟩
    · cases h
  case load T p => exact pop_load hE hR ho h hob
  case fieldAddr T p f => exact pop_fieldAddr hE hR ho h hob
  case field T p f => exact pop_field hE hR ho h hob
  case indexAddr T x i => exact pop_indexAddr hE hR ho h hob
  case build T ps => exact pop_build hE hR ho h hob
  case index T x i =>
    simp only [pop] at h
    split at h
    · rename_i b o1 k n o2 hx hi
      split at h
      · rename_i ht
        cases h
        obtain ⟨h1, h2, h3, h4⟩ := hob
        rw [Option.map_eq_some_iff] at ht
        obtain ⟨ti, ht, hs⟩ := ht
        have hu := (hE _ _ ht).isStr hs
        have e1 := inv_str (evp_sound hR hx h1)
        have e2 := inv_int (evp_sound hR hi h2)
        have hlt : n.toNat < b.size := by omega
        refine ⟨.int .u8 (byteAt b n), fun w' _ => ?_, RRel.int _ _⟩
        have hb : b[n.toNat]? = some b[n.toNat] := by simp [hlt]
        have hbt : byteAt b n = (b[n.toNat]'hlt).toNat := by
          unfold byteAt
          have : b.data.toList[n.toNat]? = some (b[n.toNat]'hlt) := by
            rw [List.getElem?_eq_getElem (by rw [ba_size]; exact hlt)]; rfl
          rw [this]; rfl
        simp [execOp, ho, Instr.index, run_underlying hu, e1, e2, asIntOf, h3, hb, hbt]
      · cases h
    · cases h
  case binOp op T x y T2 =>
    have fin : ∀ {q : PV}, (∀ w', (eqGuard op T x y (a.eval x) (a.eval y)).run P w' = .ok () w' ∧ (binOp op T (a.eval x) (a.eval y)).run P w' = .ok (valPV q) w' ∧ V3 g q (valPV q)) →
        ∃ v, (∀ w', Ex o g.w w' → (execOp a.eval o).run P w' = .ok (.value v) w') ∧ V3 g q v := by
      intro q hb
      exact ⟨_, fun w' _ => by simp [execOp, ho, (hb w').1, (hb w').2.1], (hb g.w).2.2⟩
    have sh : (match evp s x, evp s y with
      | some (.int k a, o1), some (.int _ b, o2) => (shiftBin op k a b).map fun p => (p.1, o1 ∧ o2 ∧ p.2)
      | _, _ => none) = some (pv, ob) → ∃ v, (∀ w', Ex o g.w w' → (execOp a.eval o).run P w' = .ok (.value v) w') ∧ V3 g pv v := by
      intro h
      split at h
      · rename_i k x' o1 k' y' o2 hx hy
        rw [Option.map_eq_some_iff] at h
        obtain ⟨q, hq, e⟩ := h
        cases e
        have e1 := inv_int (evp_sound hR hx hob.1)
        have e2 := inv_int (evp_sound hR hy hob.2.1)
        refine fin fun w' => ?_
        rw [e1, e2]
        exact shiftBin_sound hq hob.2.2 T x y w'
      · cases h
    simp only [pop] at h
    split at h
    · exact sh h
    · exact sh h
    · rename_i n1 n2
      split at h
      · rename_i k x' o1 k' y' o2 hx hy
        split at h
        · rename_i e
          subst e
          rw [Option.map_eq_some_iff] at h
          obtain ⟨q, hq, e⟩ := h
          cases e
          have e1 := inv_int (evp_sound hR hx hob.1)
          have e2 := inv_int (evp_sound hR hy hob.2.1)
          refine fin fun w' => ?_
          rw [e1, e2]
          exact intBinO_sound (fun e => n1 e) (fun e => n2 e) hq hob.2.2 T x y w'
        · cases h
      · rename_i x' o1 y' o2 hx hy
        rw [Option.map_eq_some_iff] at h
        obtain ⟨q, hq, e⟩ := h
        cases e
        have e1 := inv_str (evp_sound hR hx hob.1)
        have e2 := inv_str (evp_sound hR hy hob.2)
        refine fin fun w' => ?_
        rw [e1, e2]
        exact strBin_sound hq T x y w'
      · rename_i x' o1 y' o2 hx hy
        split at h
        · rename_i hb
          rw [Option.map_eq_some_iff] at h hb
          obtain ⟨q, hq, e⟩ := h
          cases e
          obtain ⟨ti, ht, hb⟩ := hb
          have e1 := inv_bool (evp_sound hR hx hob.1)
          have e2 := inv_bool (evp_sound hR hy hob.2)
          refine fin fun w' => ?_
          rw [e1, e2]
          exact boolBin_sound hq ((hE _ _ ht).isBool hb) x y w'
        · cases h
      · rename_i p o1 q o2 hx hy
        split at h
        · rename_i l hl
          rw [Option.map_eq_some_iff] at h
          obtain ⟨r, hr, e⟩ := h
          cases e
          rw [Option.bind_eq_some_iff] at hl
          obtain ⟨ti, ht, hl⟩ := hl
          exact fin fun w' => aggBin_sound (hE _ _ ht) hl hr (evp_sound hR hx hob.1) (evp_sound hR hy hob.2) x y w'
        · cases h
      · cases h
  case unOp op T x =>
    cases op <;> simp only [pop] at h
    case not =>
      split at h
      · rename_i b o1 hx
        cases h
        have e1 := inv_bool (evp_sound hR hx hob)
        exact ⟨_, fun w' _ => by simp [execOp, ho, e1, Op.unary], RRel.bool _⟩
      · cases h
    all_goals cases h
  case extract x i =>
    simp only [pop] at h
    split at h
    · rename_i l o1 hx
      rw [Option.map_eq_some_iff] at h
      obtain ⟨q, hq, e⟩ := h
      cases e
      obtain ⟨vs, e1, hl, hv⟩ := evp_sound hR hx hob
      have hi : i < vs.length := by have := (List.getElem?_eq_some_iff.1 hq).1; omega
      have hvi : vs[i]? = some vs[i] := List.getElem?_eq_getElem hi
      exact ⟨vs[i], fun w' _ => by simp [execOp, ho, e1, Instr.extract, hvi], .of2 (hv i _ _ hq hvi)⟩
    · cases h
  case nilCheck x =>
    simp only [pop] at h
    split at h
    · rename_i id off o1 hx
      cases h
      have e1 := inv_ref (evp_sound hR hx hob)
      exact ⟨_, fun w' _ => by simp [execOp, ho, e1], (rfl : Value.pointer _ = _)⟩
    · rename_i l o1 hx
      cases h
      have hv := evp_sound hR hx hob
      obtain ⟨ad, u, e1, hr, hr'⟩ := inv_eptr hv
      exact ⟨.pointer (some ad), fun w' _ => by simp [execOp, ho, e1], (RRel.eptr l ad u hr hr' : RRel g.w g.mu _ _)⟩
    · rename_i e sz i f o1 hx
      cases h
      obtain ⟨b, n, cap, hb, e1⟩ := evp_sound hR hx hob
      exact ⟨.pointer (some ⟨b, i * sz + f, none⟩), fun w' _ => by simp [execOp, ho, e1], ⟨b, n, cap, hb, rfl⟩⟩
    · cases h
  case convert src dst x =>
    simp only [pop] at h
    split at h
    · rename_i k n o1 ti0 k' hx hsrc ht
      cases h
      rw [Option.bind_eq_some_iff] at ht
      obtain ⟨ti, ht, hk⟩ := ht
      have hu := (hE _ _ ht).ik _ hk
      obtain ⟨d0, hd0, _⟩ := (hE _ _ hsrc).row
      have e1 := inv_int (evp_sound hR hx hob)
      exact ⟨.int k' (k'.wrap n), fun w' _ => by simp [execOp, ho, e1, Go.convert, run_underlying hd0, run_underlying hu, Conv.intToInt], RRel.int _ _⟩
    · cases h
  case slice T x lo hi mx =>
    cases mx with
    | none => exact pop_slice hE hR ho h hob
    | some m => simp only [pop] at h; cases h
  case call cl =>
    obtain ⟨callee, args, types⟩ := cl
    simp only [pop] at h
    split at h
    · rename_i x T e2 e3
      have e2 : args = #[x] := by rw [← Array.toArray_toList (xs := args), e2]
      have e3 : types = #[T] := by rw [← Array.toArray_toList (xs := types), e3]
      subst e2
      subst e3
      split at h
      · rename_i v o1 ti hx ht
        split at h
        · rename_i n hn
          split at h
          · rename_i hk
            cases h
            have hv := evp_sound hR hx hob
            refine ⟨.int .i64 n, fun w' _ => ?_, RRel.int _ _⟩
            have key : (Builtin.len_ #[T] o.type #[a.eval x]).run P w' = .ok (.int .i64 n) w' := by
              unfold lenPV at hn
              split at hn
              · rename_i xs
                cases hn
                obtain ⟨A, cc, _, _, e, _⟩ := inv_sl hv
                simp only [lenOk] at hk
                obtain ⟨p, hp⟩ := Option.isSome_iff_exists.1 hk
                have hu := ((hE _ _ ht).elem p.1 p.2 hp).1
                simp [Builtin.len_, run_underlying hu, e, goInt]
              · cases hn
                simp only [lenOk] at hk
                obtain ⟨p, hp⟩ := Option.isSome_iff_exists.1 hk
                have hu := ((hE _ _ ht).elem p.1 p.2 hp).1
                simp [Builtin.len_, run_underlying hu, inv_nils hv, goInt]
              · cases hn
                simp only [lenOk] at hk
                have hu := (hE _ _ ht).isStr hk
                simp [Builtin.len_, run_underlying hu, inv_str hv, goInt]
              · rename_i e'
                rw [Option.map_eq_some_iff] at hn
                obtain ⟨r, hr, hn⟩ := hn
                subst hn
                simp only [lenOk] at hk
                obtain ⟨p, hp⟩ := Option.isSome_iff_exists.1 hk
                have hu := ((hE _ _ ht).elem p.1 p.2 hp).1
                have e : a.eval x = g.ρ e' := hv
                obtain ⟨cs, hown, _⟩ := hR.rows e' r hr
                rcases hown.2 with ⟨h0, h1⟩ | ⟨gg, cap, cur, hval, _⟩
                · simp [Builtin.len_, run_underlying hu, e, h0, h1, goInt]
                · simp [Builtin.len_, run_underlying hu, e, hval, goInt]
              · cases hn
                simp only [lenOk] at hk
                obtain ⟨p, hp⟩ := Option.isSome_iff_exists.1 hk
                have hu := ((hE _ _ ht).elem p.1 p.2 hp).1
                obtain ⟨b, m, cap, _, e⟩ := hv
                simp [Builtin.len_, run_underlying hu, e, goInt]
              · cases hn
            simp [execOp, ho, resolve, invoke, builtin, key]
          · cases h
        · cases h
      · cases h
    · cases h
  all_goals (simp only [pop] at h; cases h)
end Go.Mh
