/-
  What Remove computes, plainly.
-/
import Derived.Test.YmbrbiPlain
namespace Go.Proofs.Ymbrbi
open Go.RowKit

def remP (lo hi : Int) (p : Int × Int) : List (Int × Int) :=
  (if p.1 < lo then [(p.1, if lo < p.2 then lo else p.2)] else []) ++ (if hi < p.2 then [(if p.1 < hi then hi else p.1, p.2)] else [])
def remF (lo hi : Int) : List (Int × Int) → List (Int × Int)
  | [] => []
  | p :: R => remP lo hi p ++ remF lo hi R
def remove (L : List (Int × Int)) (lo hi : Int) : List (Int × Int) := if hi ≤ lo then L else remF lo hi L

variable {L M : List (Int × Int)} {lo hi : Int} {k : Nat}

theorem rem_start (h : lo < hi) : Hid (remove L lo hi = [] ++ remF lo hi (L.drop 0)) := by
  show _ = _
  rw [remove, if_neg (by omega)]; rfl
theorem rem_step (h : k < L.length) (he : Hid (remove L lo hi = M ++ remF lo hi (L.drop k))) (A : List (Int × Int)) (hA : remP lo hi (loA L k, hiA L k) = A) : Hid (remove L lo hi = (M ++ A) ++ remF lo hi (L.drop (k + 1))) := by
  show _ = _
  rw [he.out, drop_cons h, remF, hA]; simp
theorem rem_end (h : ¬ k < L.length) (he : Hid (remove L lo hi = M ++ remF lo hi (L.drop k))) : remove L lo hi = M := by
  rw [he.out, drop_end h, remF]; simp
theorem remP_length (p : Int × Int) : (remP lo hi p).length ≤ 2 := by
  unfold remP; by_cases h1 : p.1 < lo <;> by_cases h2 : hi < p.2 <;> simp [h1, h2]
theorem remF_length : ∀ L : List (Int × Int), (remF lo hi L).length ≤ 2 * L.length := by
  intro L
  induction L with
  | nil => simp [remF]
  | cons p R ih =>
    have := remP_length (lo := lo) (hi := hi) p
    rw [remF]; simp; omega
theorem remove_length (L : List (Int × Int)) (lo hi : Int) : (remove L lo hi).length ≤ 2 * L.length := by
  unfold remove
  split
  · omega
  · exact remF_length L

end Go.Proofs.Ymbrbi
