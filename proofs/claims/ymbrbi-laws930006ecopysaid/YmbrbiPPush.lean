/-
  What push computes, plainly.
-/
import Derived.Test.YmbrbiPlain
namespace Go.Proofs.Ymbrbi
open Go.RowKit

def pushL (M : List (Int × Int)) (p : Int × Int) : List (Int × Int) :=
  if M.length = 0 then M ++ [p]
  else if hiA M (M.length - 1) < p.1 then M ++ [p]
  else if hiA M (M.length - 1) < p.2 then M.set (M.length - 1) (loA M (M.length - 1), p.2) else M

theorem pushL_length (M : List (Int × Int)) (p : Int × Int) : (pushL M p).length ≤ M.length + 1 := by
  unfold pushL; split
  · simp
  · split
    · simp
    · split <;> simp

end Go.Proofs.Ymbrbi
