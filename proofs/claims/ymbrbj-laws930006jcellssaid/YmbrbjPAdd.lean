/-
  What Add computes, plainly.
-/
import Derived.Test.YmbrbjPlain
namespace Go.Proofs.Ymbrbj
open Go.RowKit

/-- The middle loop: absorb what overlaps or touches. -/
def addM : Int → Int → List (Int × Int) → List (Int × Int)
  | lo, hi, [] => [(lo, hi)]
  | lo, hi, p :: R => if p.1 ≤ hi then addM (if p.1 < lo then p.1 else lo) (if hi < p.2 then p.2 else hi) R else (lo, hi) :: p :: R
/-- The first loop: what ends before lo stays. -/
def addR (lo hi : Int) : List (Int × Int) → List (Int × Int)
  | [] => [(lo, hi)]
  | p :: R => if p.2 < lo then p :: addR lo hi R else addM lo hi (p :: R)
def add (L : List (Int × Int)) (lo hi : Int) : List (Int × Int) := if hi ≤ lo then L else addR lo hi L

variable {L M : List (Int × Int)} {lo hi lo0 hi0 : Int} {k : Nat}

theorem add_start (h : lo < hi) : Hid (add L lo hi = [] ++ addR lo hi (L.drop 0)) := by
  show _ = _
  rw [add, if_neg (by omega)]; rfl
theorem add_1 (h : k < L.length) (he : Hid (add L lo hi = M ++ addR lo hi (L.drop k))) (h1 : hiA L k < lo) : Hid (add L lo hi = (M ++ [(loA L k, hiA L k)]) ++ addR lo hi (L.drop (k + 1))) := by
  show _ = _
  rw [he.out, drop_cons h, addR, if_pos h1]; simp
theorem add_12 (he : Hid (add L lo hi = M ++ addR lo hi (L.drop k))) (h1 : k < L.length → lo ≤ hiA L k) : Hid (add L lo hi = M ++ addM lo hi (L.drop k)) := by
  show _ = _
  rw [he.out]
  by_cases h : k < L.length
  · have := h1 h
    rw [drop_cons h, addR, if_neg (by simp; omega)]
  · rw [drop_end h, addR, addM]
theorem add_2 (h : k < L.length) (he : Hid (add L lo0 hi0 = M ++ addM lo hi (L.drop k))) (h1 : loA L k ≤ hi) :
    Hid (add L lo0 hi0 = M ++ addM (if loA L k < lo then loA L k else lo) (if hi < hiA L k then hiA L k else hi) (L.drop (k + 1))) := by
  show _ = _
  rw [he.out, drop_cons h, addM, if_pos h1]
theorem add_23 (he : Hid (add L lo0 hi0 = M ++ addM lo hi (L.drop k))) (h1 : k < L.length → hi < loA L k) : Hid (add L lo0 hi0 = (M ++ [(lo, hi)]) ++ L.drop k) := by
  show _ = _
  rw [he.out]
  by_cases h : k < L.length
  · have := h1 h
    rw [drop_cons h, addM, if_neg (by simp; omega)]; simp
  · rw [drop_end h, addM]; simp
theorem add_3 (h : k < L.length) (he : Hid (add L lo0 hi0 = M ++ L.drop k)) : Hid (add L lo0 hi0 = (M ++ [(loA L k, hiA L k)]) ++ L.drop (k + 1)) := by
  show _ = _
  rw [he.out, drop_cons h]; simp
theorem add_end (h : ¬ k < L.length) (he : Hid (add L lo0 hi0 = M ++ L.drop k)) : add L lo0 hi0 = M := by
  rw [he.out, drop_end h]; simp

theorem addM_length : ∀ (L : List (Int × Int)) (lo hi : Int), (addM lo hi L).length ≤ L.length + 1 := by
  intro L
  induction L with
  | nil => intro lo hi; simp [addM]
  | cons p R ih =>
    intro lo hi
    rw [addM]
    split
    · have := ih (if p.1 < lo then p.1 else lo) (if hi < p.2 then p.2 else hi)
      simp; omega
    · simp
theorem addR_length (lo hi : Int) : ∀ L : List (Int × Int), (addR lo hi L).length ≤ L.length + 1 := by
  intro L
  induction L with
  | nil => simp [addR]
  | cons p R ih =>
    rw [addR]
    split
    · simp; omega
    · exact addM_length _ _ _
theorem add_length (L : List (Int × Int)) (lo hi : Int) : (add L lo hi).length ≤ L.length + 1 := by
  unfold add
  split
  · omega
  · exact addR_length _ _ _

/-- Add after Add, from the set S on. -/
def addAll (S : List (Int × Int)) : List (Int × Int) → List (Int × Int)
  | [] => S
  | p :: R => addAll (add S p.1 p.2) R
/-- FromSpans. -/
def fromS (L : List (Int × Int)) : List (Int × Int) := addAll [] L

theorem from_start : Hid (fromS L = addAll [] (L.drop 0)) := rfl
theorem from_step {S : List (Int × Int)} (h : k < L.length) (he : Hid (fromS L = addAll S (L.drop k))) : Hid (fromS L = addAll (add S (loA L k) (hiA L k)) (L.drop (k + 1))) := by
  show _ = _
  rw [he.out, drop_cons h, addAll]
theorem from_end {S : List (Int × Int)} (h : ¬ k < L.length) (he : Hid (fromS L = addAll S (L.drop k))) : fromS L = S := by
  rw [he.out, drop_end h, addAll]
theorem addAll_length : ∀ (R S : List (Int × Int)), (addAll S R).length ≤ S.length + R.length := by
  intro R
  induction R with
  | nil => intro S; simp [addAll]
  | cons p R ih =>
    intro S
    have h1 := ih (add S p.1 p.2)
    have h2 := add_length S p.1 p.2
    rw [addAll]; simp; omega
theorem fromS_length (L : List (Int × Int)) : (fromS L).length ≤ L.length := by
  have := addAll_length L []
  simpa [fromS] using this

end Go.Proofs.Ymbrbj
