/-
  The plain functions: what each Go function computes, on lists of pairs of integers. No program in sight.
-/
import Derived.Test.YmbrbjBase
namespace Go.Proofs.Ymbrbj
open Go.RowKit

theorem getA {L : List (Int × Int)} {k : Nat} (h : k < L.length) : (loA L k, hiA L k) = L[k] := by simp [loA, hiA, List.getD, h]
theorem drop_cons {L : List (Int × Int)} {k : Nat} (h : k < L.length) : L.drop k = (loA L k, hiA L k) :: L.drop (k + 1) := by
  rw [List.drop_eq_getElem_cons h, getA h]
theorem drop_end {L : List (Int × Int)} {k : Nat} (h : ¬ k < L.length) : L.drop k = [] := List.drop_eq_nil_of_le (by omega)
theorem take_snoc {L : List (Int × Int)} {k : Nat} (h : k < L.length) : L.take (k + 1) = L.take k ++ [(loA L k, hiA L k)] := by
  rw [List.take_succ_eq_append_getElem h, getA h]
theorem pair_mem {L : List (Int × Int)} {k : Nat} (h : k < L.length) : (loA L k, hiA L k) ∈ L := by
  rw [getA h]; exact List.getElem_mem h

/-- Does x lie in one of the spans? -/
def has : List (Int × Int) → Int → Bool
  | [], _ => false
  | p :: R, x => (decide (p.1 ≤ x) && decide (x < p.2)) || has R x

theorem has_yes {L : List (Int × Int)} {x : Int} {k : Nat} (h : k < L.length) (he : Hid (has L x = has (L.drop k) x)) (h1 : loA L k ≤ x) (h2 : x < hiA L k) : has L x = true := by
  rw [he.out, drop_cons h, has]; simp [h1, h2]
theorem has_step {L : List (Int × Int)} {x : Int} {k : Nat} (h : k < L.length) (he : Hid (has L x = has (L.drop k) x)) (h1 : ¬ (loA L k ≤ x ∧ x < hiA L k)) : Hid (has L x = has (L.drop (k + 1)) x) := by
  show _ = _
  rw [he.out, drop_cons h, has]
  by_cases a : loA L k ≤ x
  · have : ¬ x < hiA L k := fun b => h1 ⟨a, b⟩
    simp [a, this]
  · simp [a]
theorem has_end {L : List (Int × Int)} {x : Int} {k : Nat} (h : ¬ k < L.length) (he : Hid (has L x = has (L.drop k) x)) : has L x = false := by
  rw [he.out, drop_end h, has]

/-- Are the spans non-empty, each behind the one before with a gap? 'q': the Hi of the one before, if there is one. -/
def gapOk : Option Int → Int → Bool
  | none, _ => true
  | some h, lo => decide (h < lo)
def canonF : Option Int → List (Int × Int) → Bool
  | _, [] => true
  | q, p :: R => decide (p.1 < p.2) && gapOk q p.1 && canonF (some p.2) R
def canon (L : List (Int × Int)) : Bool := canonF none L
def prevHi (L : List (Int × Int)) (k : Nat) : Option Int := if k = 0 then none else some (hiA L (k - 1))

theorem canon_no1 {L : List (Int × Int)} {k : Nat} (h : k < L.length) (he : Hid (canon L = canonF (prevHi L k) (L.drop k))) (h1 : hiA L k ≤ loA L k) : canon L = false := by
  rw [he.out, drop_cons h, canonF]
  have : ¬ loA L k < hiA L k := by omega
  simp [this]
theorem canon_no2 {L : List (Int × Int)} {k : Nat} (h : k < L.length) (h0 : 0 < k) (he : Hid (canon L = canonF (prevHi L k) (L.drop k))) (h1 : loA L k ≤ hiA L (k - 1)) : canon L = false := by
  rw [he.out, drop_cons h, canonF, prevHi, if_neg (by omega)]
  have : ¬ hiA L (k - 1) < loA L k := by omega
  simp [this, gapOk]
theorem canon_step {L : List (Int × Int)} {k : Nat} (h : k < L.length) (he : Hid (canon L = canonF (prevHi L k) (L.drop k))) (h1 : loA L k < hiA L k) (h2 : 0 < k → hiA L (k - 1) < loA L k) : Hid (canon L = canonF (prevHi L (k + 1)) (L.drop (k + 1))) := by
  show _ = _
  rw [he.out, drop_cons h, canonF, prevHi, prevHi, if_neg (by omega : ¬ k + 1 = 0)]
  by_cases h0 : k = 0
  · subst h0; simp [h1, gapOk]
  · have h2' := h2 (by omega)
    simp [h0, h1, h2', gapOk]
theorem canon_end {L : List (Int × Int)} {k : Nat} (h : ¬ k < L.length) (he : Hid (canon L = canonF (prevHi L k) (L.drop k))) : canon L = true := by
  rw [he.out, drop_end h, canonF]

/-- The same elements? -/
def eqL (A B : List (Int × Int)) : Bool := decide (A = B)

theorem eqL_len {A B : List (Int × Int)} (h : A.length ≠ B.length) : eqL A B = false := by
  unfold eqL; simp; intro e; exact h (by rw [e])
theorem eqL_no {A B : List (Int × Int)} {k : Nat} (h1 : ¬ (loA A k = loA B k ∧ hiA A k = hiA B k)) : eqL A B = false := by
  unfold eqL; simp; intro e; subst e; exact h1 ⟨rfl, rfl⟩
theorem eqL_step {A B : List (Int × Int)} {k : Nat} (h : k < A.length) (h' : k < B.length) (he : Hid (A.take k = B.take k)) (h1 : loA A k = loA B k) (h2 : hiA A k = hiA B k) : Hid (A.take (k + 1) = B.take (k + 1)) := by
  show _ = _
  rw [take_snoc h, take_snoc h', he.out, h1, h2]
theorem eqL_end {A B : List (Int × Int)} {k : Nat} (hl : A.length = B.length) (h : ¬ k < A.length) (he : Hid (A.take k = B.take k)) : eqL A B = true := by
  have := he.out
  rw [List.take_of_length_le (by omega), List.take_of_length_le (by omega)] at this
  unfold eqL; simp [this]

end Go.Proofs.Ymbrbj
