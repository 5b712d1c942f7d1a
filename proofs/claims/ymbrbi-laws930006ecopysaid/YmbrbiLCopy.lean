/-
  A list laid cell by cell beside another.
-/
import Derived.Test.YmbrbiLPush
namespace Go.Proofs.Ymbrbi
open Go.RowKit

def Copied (L : List (Int × Int)) (k : Nat) (M : List (Int × Int)) : Prop := M.length = L.length ∧ ∀ i, i < k → loA M i = loA L i ∧ hiA M i = hiA L i
theorem copied_start {L M : List (Int × Int)} (h : M.length = L.length) : Copied L 0 M := ⟨h, fun i hi => by omega⟩
theorem copied_step {L M : List (Int × Int)} {k : Nat} (h : Copied L k M) (hk : k < L.length) : Copied L (k + 1) (M.set k (loA L k, hiA L k)) := by
  obtain ⟨h1, h2⟩ := h
  refine ⟨by simpa using h1, fun i hi => ?_⟩
  rw [loA_set (by omega), hiA_set (by omega)]
  by_cases e : i = k
  · subst e; simp
  · rw [if_neg e, if_neg e]; exact h2 i (by omega)
theorem copied_end {L M : List (Int × Int)} {k : Nat} (h : Copied L k M) (hk : L.length ≤ k) : M = L := by
  obtain ⟨h1, h2⟩ := h
  apply List.ext_getElem h1
  intro i hi hi'
  obtain ⟨e1, e2⟩ := h2 i (by omega)
  have g1 : M[i] = (loA M i, hiA M i) := by simp [loA, hiA, List.getD, hi]
  have g2 : L[i] = (loA L i, hiA L i) := by simp [loA, hiA, List.getD, hi']
  rw [g1, g2, e1, e2]

end Go.Proofs.Ymbrbi
