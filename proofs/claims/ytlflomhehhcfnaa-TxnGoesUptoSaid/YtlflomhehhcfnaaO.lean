/- The order of keys, sorted operations: plain laws. -/
import Derived.Test.YtlflomhehhcfnaaB3
import Derived.Sort.Walk0
namespace Go.Proofs.Ytlflomhehhcfnaa
open Go Go.Mh

def klt (a b : ByteArray) : Bool := Op.bytesLess a.toList b.toList
theorem klt_iff {a b : ByteArray} : klt a b = true ↔ a.toList < b.toList := by rw [klt, bytesLess_eq]; simp
theorem klt_irrefl (a : ByteArray) : klt a a = false := by
  rw [Bool.eq_false_iff]
  intro h
  exact List.lt_irrefl _ (klt_iff.1 h)
theorem klt_trans {a b c : ByteArray} (h1 : klt a b = true) (h2 : klt b c = true) : klt a c = true :=
  klt_iff.2 (List.lt_trans (klt_iff.1 h1) (klt_iff.1 h2))
theorem klt_total {a b : ByteArray} (h1 : klt a b = false) (h2 : a ≠ b) : klt b a = true := by
  refine klt_iff.2 ?_
  have h3 : ¬ a.toList < b.toList := fun h => by rw [klt_iff.2 h] at h1; cases h1
  rcases List.le_iff_lt_or_eq.1 (List.not_lt.1 h3) with h | h
  · exact h
  · exact absurd (tl_iff.1 h).symm h2
theorem kle_false {a b : ByteArray} : kle a b = false ↔ klt b a = true := by
  rw [kle]
  constructor
  · intro h
    simp only [Bool.or_eq_false_iff, beq_eq_false_iff_ne] at h
    exact klt_total h.1 (fun e => h.2 (by rw [e]))
  · intro h
    have h1 : klt a b = false := by
      rw [Bool.eq_false_iff]
      intro h2
      have := klt_trans h h2
      rw [klt_irrefl] at this; cases this
    have h2 : a ≠ b := fun e => by rw [e, klt_irrefl] at h; cases h
    simp only [Bool.or_eq_false_iff, beq_eq_false_iff_ne]
    exact ⟨h1, fun e => h2 (tl_iff.1 e)⟩

theorem Asc.lt {l : List OpS} (h : Asc l) : ∀ {i j : Nat} {x y : OpS}, i < j → l[i]? = some x → l[j]? = some y → klt x.key y.key = true
  | i, 0, _, _, hij, _, _ => by omega
  | i, j + 1, x, y, hij, hx, hy => by
    have hj : j < l.length := by have := (List.getElem?_eq_some_iff.1 hy).1; omega
    have hz : l[j]? = some l[j] := List.getElem?_eq_getElem hj
    have h1 := kle_false.1 (h j _ _ hz hy)
    rcases Nat.lt_or_ge i j with h2 | h2
    · exact klt_trans (Asc.lt h h2 hx hz) h1
    · have : i = j := by omega
      subst this
      rw [hz] at hx; cases hx; exact h1

/-- How many keys lie below a key. -/
def below (l : List OpS) (s : ByteArray) : Nat := (l.takeWhile fun o => klt o.key s).length
theorem below_le (l : List OpS) (s : ByteArray) : below l s ≤ l.length := (List.takeWhile_sublist _).length_le
theorem below_eq {l : List OpS} {s : ByteArray} {n : Nat} (hn : n ≤ l.length) (h1 : ∀ (j : Nat) x, j < n → l[j]? = some x → klt x.key s = true) (h2 : ∀ x, l[n]? = some x → klt x.key s = false) : below l s = n := by
  induction l generalizing n with
  | nil => simp at hn; simp [below, hn]
  | cons a l ih =>
    cases n with
    | zero =>
      have := h2 a rfl
      simp [below, this]
    | succ n =>
      have h0 := h1 0 a (by omega) rfl
      have := ih (n := n) (by simpa using hn) (fun j x hj hx => h1 (j + 1) x (by omega) (by simpa using hx)) (fun x hx => h2 x (by simpa using hx))
      simp only [below, List.takeWhile_cons, h0, if_true, List.length_cons]
      simp only [below] at this
      omega
theorem below_lt {l : List OpS} {s : ByteArray} {j : Nat} {x : OpS} (hj : j < below l s) (hx : l[j]? = some x) : klt x.key s = true := by
  induction l generalizing j with
  | nil => simp at hx
  | cons a l ih =>
    simp only [below, List.takeWhile_cons] at hj
    split at hj
    · rename_i ha
      cases j with
      | zero => simp at hx; subst hx; exact ha
      | succ j => exact ih (j := j) (by simp only [below]; simp at hj; omega) (by simpa using hx)
    · simp at hj
theorem below_not {l : List OpS} {s : ByteArray} {x : OpS} (hx : l[below l s]? = some x) : klt x.key s = false := by
  induction l with
  | nil => simp at hx
  | cons a l ih =>
    simp only [below, List.takeWhile_cons] at hx
    split at hx
    · rename_i ha
      simp only [List.length_cons, List.getElem?_cons_succ] at hx
      exact ih hx
    · rename_i ha
      simp at hx
      subst hx
      simpa using ha
end Go.Proofs.Ytlflomhehhcfnaa
