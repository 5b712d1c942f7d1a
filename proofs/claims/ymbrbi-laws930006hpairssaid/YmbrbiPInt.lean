/-
  What Intersect computes, plainly.
-/
import Derived.Test.YmbrbiPlain
namespace Go.Proofs.Ymbrbi
open Go.RowKit

def mxI (a b : Int) : Int := if a < b then b else a
def mnI (a b : Int) : Int := if b < a then b else a
def one (lo hi : Int) : List (Int × Int) := if lo < hi then [(lo, hi)] else []
def inter : List (Int × Int) → List (Int × Int) → List (Int × Int)
  | [], _ => []
  | _ :: _, [] => []
  | p :: A, q :: B => one (mxI p.1 q.1) (mnI p.2 q.2) ++ (if p.2 ≤ q.2 then inter A (q :: B) else inter (p :: A) B)

variable {A B M : List (Int × Int)} {i j : Nat}

theorem int_start : Hid (inter A B = [] ++ inter (A.drop 0) (B.drop 0)) := by show _ = _; simp
theorem int_stepA (hi : i < A.length) (hj : j < B.length) (he : Hid (inter A B = M ++ inter (A.drop i) (B.drop j))) (h : hiA A i ≤ hiA B j) :
    Hid (inter A B = (M ++ one (mxI (loA A i) (loA B j)) (mnI (hiA A i) (hiA B j))) ++ inter (A.drop (i + 1)) (B.drop j)) := by
  show _ = _
  rw [he.out, drop_cons hi, drop_cons hj, inter, if_pos (by simpa using h)]; simp
theorem int_stepB (hi : i < A.length) (hj : j < B.length) (he : Hid (inter A B = M ++ inter (A.drop i) (B.drop j))) (h : hiA B j < hiA A i) :
    Hid (inter A B = (M ++ one (mxI (loA A i) (loA B j)) (mnI (hiA A i) (hiA B j))) ++ inter (A.drop i) (B.drop (j + 1))) := by
  show _ = _
  rw [he.out, drop_cons hi, drop_cons hj, inter, if_neg (by simp; omega)]; simp
theorem int_end (h : ¬ (i < A.length ∧ j < B.length)) (he : Hid (inter A B = M ++ inter (A.drop i) (B.drop j))) : inter A B = M := by
  rw [he.out]
  by_cases hi : i < A.length
  · rw [drop_cons hi, drop_end (L := B) (by omega), inter]; simp
  · rw [drop_end hi, inter]; simp
theorem inter_length : ∀ (n : Nat) (A B : List (Int × Int)), A.length + B.length ≤ n → (inter A B).length ≤ n := by
  intro n
  induction n with
  | zero =>
    intro A B h
    obtain rfl : A = [] := List.eq_nil_of_length_eq_zero (by omega)
    simp [inter]
  | succ n ih =>
    intro A B h
    match A, B, h with
    | [], _, _ => simp [inter]
    | _ :: _, [], _ => simp [inter]
    | p :: A, q :: B, h =>
      have h1 : (one (mxI p.1 q.1) (mnI p.2 q.2)).length ≤ 1 := by unfold one; split <;> simp
      rw [inter]
      split
      · have := ih A (q :: B) (by simp at h ⊢; omega); simp; omega
      · have := ih (p :: A) B (by simp at h ⊢; omega); simp; omega

end Go.Proofs.Ymbrbi
