/- TxnGoes: whatever transaction, key and value of bulk at most 1048576: the call returns true, and each argument reads behind it as it read before. -/
import Derived.Test.YtlflomhehhcfnaaC1
import Derived.Test.YtlflomhehhcfnaaRd
namespace Go.Proofs.Ytlflomhehhcfnaa.txnGoes
open Go Go.Mh Go.ChangeShapes Go.WideShapes Go.ChangeAt Go.RowKit
open Go.ChangeMaps (open_string shut_string)
set_option linter.unusedVariables false

theorem own : ownKnob Try.prog.godebug = none := by kernel_rfl
theorem laidOut : laidOutB Try.prog = true := by kernel_rfl

instance : Inhabited OpS := ⟨⟨⟨#[]⟩, false, ⟨#[]⟩⟩⟩
theorem rdOp {W : World} : Rd Try.prog W 32 (fun o : OpS => o.pv.cells) (fun o => o.key.size + o.val.size + 1) (fun _ => True) :=
  (rd_struct3 (n0 := 1) (n1 := 1) (n2 := 1) Try.underlying32 (rd_str Try.underlying9) (rd_bool Try.underlying4) (rd_str Try.underlying9) (by kernel_rfl) (by kernel_rfl) (by kernel_rfl) (by kernel_rfl) rfl rfl rfl).map
    (fun a => (⟨a.1, a.2.1, a.2.2⟩ : OpS)) (fun a => rfl) (fun a => by simp only; omega) (fun _ _ => trivial)
theorem rdOps {W : World} : Rd Try.prog W 22 (fun l : List OpS => [opsPV l]) (fun l => (l.map fun o => o.key.size + o.val.size + 1).sum + 1) (fun _ => True) :=
  (rd_slice (n := 3) Try.underlying22 rdOp (by kernel_rfl) (elem := OpS.pv) (fun a => rfl)).map id (fun a => rfl) (fun a => Nat.le_refl _) (fun _ _ => trivial)
theorem rdTxn {W : World} : Rd Try.prog W 24 (fun t : TxnS => [.int .i64 t.seq, opsPV t.ops]) (fun t => (t.ops.map fun o => o.key.size + o.val.size + 1).sum + 1) (fun _ => True) :=
  (rd_struct2 (n0 := 1) (n1 := 1) Try.underlying24 (rd_int Try.underlying3) rdOps (by kernel_rfl) (by kernel_rfl) (by kernel_rfl) rfl rfl).map
    (fun a => (⟨a.1, a.2⟩ : TxnS)) (fun a => rfl) (fun a => by simp only; omega) (fun _ _ => trivial)

theorem sm_of {l : List OpS} (h : (l.map fun o => o.key.size + o.val.size + 1).sum ≤ 1048576) : Sm l := by
  have key : ∀ (l : List OpS), l.length ≤ (l.map fun o => o.key.size + o.val.size + 1).sum ∧ ∀ o ∈ l, o.key.size + o.val.size + 1 ≤ (l.map fun o => o.key.size + o.val.size + 1).sum := by
    intro l
    induction l with
    | nil => simp
    | cons x l ih =>
      simp only [List.map_cons, List.sum_cons, List.length_cons]
      refine ⟨by omega, fun o ho => ?_⟩
      rcases List.mem_cons.1 ho with rfl | ho
      · omega
      · have := ih.2 o ho; omega
  obtain ⟨h1, h2⟩ := key l
  exact ⟨by omega, fun o ho => by have := h2 o ho; omega⟩

theorem contract (H : Type) (enc : TypeId × Value → H) (W : World) (base : Nat) (args : Array Value) (ds gs : List (DataW H)) (before : List MemPlace)
    (hval : ∀ (j : Nat) t v, Try.f3.params[j]? = some t → args[j]? = some v → Value.okWide Try.prog W .any base t v)
    (hW : DataW.Whole enc Try.prog Try.f3.params.toList Rows.txnGoesSpec.vars false W args.toList ds gs before) (hk : Rows.uptoSmall H (ds ++ gs) = true) :
    Calls Try.prog 3 args W fun e W' => ∃ v, e = .returned v ∧ Rows.txnGoesSpec.post enc Try.prog Try.f3 false true false false W args v W' := by
  have hW' := hW
  obtain ⟨p, q, hA0, hV, rfl, hfz, hnd⟩ := hW
  have hA : DataW.TrodAll enc Try.prog W 0 (fun _ => true) true Try.f3.params.toList args.toList ds p := hA0
  rw [Try.params3] at hA hval
  obtain ⟨v0, vs0, d0, ds0, p0, q0, hargs, rfl, rfl, h0, r0⟩ := trodAll_cons hA
  obtain ⟨v1, vs1, d1, ds1, p1, q1, rfl, rfl, rfl, h1, r1⟩ := trodAll_cons r0
  obtain ⟨v2, vs2, d2, ds2, p2, q2, rfl, rfl, rfl, h2, r2⟩ := trodAll_cons r1
  obtain ⟨rfl, rfl, rfl⟩ := trodAll_nil r2
  obtain rfl : args = #[v0, v1, v2] := by rw [← Array.toArray_toList (xs := args), hargs]
  obtain ⟨rfl, rfl⟩ := trodVars_none hV
  have hlt : ∀ x ∈ p0 ++ (p1 ++ (p2 ++ [])) ++ [], x.block < W.heap.size := fun x hx => by simpa using hW'.lt x hx
  have hbulk : Rows.uptoBulkAll ([d0, d1, d2] ++ []) ≤ 1048576 := of_decide_eq_true hk
  simp only [List.append_nil, Rows.uptoBulkAll] at hbulk
  obtain ⟨cs, rfl, hsz⟩ := okWide_struct Try.underlying24 (hval 0 24 v0 rfl rfl)
  obtain ⟨k, rfl, rfl, rfl, hk1⟩ := open_string Try.underlying9 (hval 1 9 v1 rfl rfl) h1
  obtain ⟨v, rfl, rfl, rfl, hk2⟩ := open_string Try.underlying9 (hval 2 9 v2 rfl rfl) h2
  have h0' := h0
  obtain ⟨fuel, hf⟩ := h0
  obtain ⟨t, hrc, hz, _⟩ := rdTxn H enc 0 _ true fuel _ _ hf
  have hsm : Sm t.ops := sm_of (by simp only at hz; omega)
  have hR0 : RRel W nomu t.pv (.agg cs) := agg_of_RC hrc
  refine ((law_meets t k v hsm).calls W nomu [.agg cs, .string k, .string v] (fun _ h => h.elim) ⟨rfl, fun i p u a b => ?_⟩).mono fun e W' ⟨u, he, hu, hb⟩ => ?_
  · match i, a, b with
    | 0, a, b => simp at a b; subst a; subst b; exact hR0
    | 1, a, b => simp at a b; subst a; subst b; exact .str k
    | 2, a, b => simp at a b; subst a; subst b; exact .str v
    | i + 3, a, _ => simp at a
  · subst he
    have hu : RRel W' nomu (.bool true) u := hu
    cases hu
    refine ⟨_, rfl, law_post (p := p0 ++ ([] ++ ([] ++ []))) rfl hW' (trodAll_cons_mk (shut_bool Try.underlying4 _) trodAll_mk0) ?_ rfl hb⟩
    exact trodAll_cons_mk (Below.trod laidOut (by kernel_rfl) (of_decide_eq_true (by kernel_rfl)) h0' hb (fun x hx => hlt x (by simp [hx])))
      (trodAll_cons_mk (shut_string Try.underlying9 hk1) (trodAll_cons_mk (shut_string Try.underlying9 hk2) trodAll_mk0))

set_option maxRecDepth 100000 in
theorem lifted (os : Os) (started : os.Started) (H : Type) (enc : TypeId × Value → H) (F : Stop.Interp) :
    ReturnsInHanded {} Try.checked os 3 .any ((Rows.OpenSpec.upto Rows.txnGoesSpec).pre6 enc Try.prog Try.f3 Rows.txnGoesUptoRow.domain false) (((Rows.OpenSpec.upto Rows.txnGoesSpec).at F).post enc Try.prog Try.f3 false true false false) := by
  refine returnsInHanded_of_cond (C := Try.checked) (s := Rows.OpenSpec.upto Rows.txnGoesSpec) (k := Rows.uptoSmall) rfl own started (by kernel_rfl) Try.func3
    (OpenSpec.witness (enc := enc) (C := Try.checked) (s := Rows.OpenSpec.upto Rows.txnGoesSpec) (k := Rows.uptoSmall) rfl false ⟨#[], #[.agg #[.int .i64 0, .slice none 0 0], .string ⟨#[]⟩, .string ⟨#[]⟩], []⟩ 8 (by kernel_rfl) (by kernel_rfl) (by kernel_rfl)
      (x := ([.agg [.lit (.int .i64 0), .nil], .lit (.string []), .lit (.string [])], [], [])) (by kernel_rfl) rfl (by kernel_rfl)) ?_
  intro W base args ds gs before hval hW _ hk _
  exact contract H enc W base args ds gs before hval hW hk

theorem over : Rows.txnGoesUptoRow.holds Try.pinned (Rows.OpenSpec.upto Rows.txnGoesSpec) :=
  OpenClaim.holds_of_cond 3 Try.f3 rfl rfl rfl rfl rfl rfl rfl ⟨rfl, rfl, rfl, rfl, rfl⟩ rfl rfl rfl rfl rfl (by kernel_rfl) Try.func3 (by kernel_rfl)
    (of_decide_eq_true (by kernel_rfl)) (by unfold Func.isWrapper; first | (rw [if_pos (by decide +kernel)]; kernel_rfl) | (rw [if_neg (by decide +kernel)]; exact ⟨rfl, rfl⟩))
    (fun os started H enc _ F => lifted os started H enc F)

theorem proved : Rows.TxnGoesUptoSaid := over
end Go.Proofs.Ytlflomhehhcfnaa.txnGoes
