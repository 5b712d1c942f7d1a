/-
  A list laid with gaps, from st on.
-/
import Derived.Test.YmbrbiLPush
import Derived.Test.YmbrbiThy
namespace Go.Proofs.Ymbrbi
open Go.RowKit

def LaidG (k : Nat) (M : List (Int × Int)) (cur : Int) : Prop :=
  (∀ i, i < k → loA M i < hiA M i ∧ (0 < i → hiA M (i - 1) < loA M i)) ∧ (0 < k → hiA M (k - 1) = cur)
theorem laidG_step {k : Nat} {M : List (Int × Int)} {cur lo hi : Int} (h : LaidG k M cur) (hk : k < M.length) (h1 : cur < lo) (h2 : lo < hi) : LaidG (k + 1) (M.set k (lo, hi)) hi := by
  obtain ⟨a1, a2⟩ := h
  refine ⟨fun i hi' => ?_, fun _ => ?_⟩
  · rw [loA_set hk, hiA_set hk, hiA_set hk]
    by_cases e : i = k
    · subst e
      rw [if_pos rfl, if_pos rfl]
      refine ⟨h2, fun h0 => ?_⟩
      rw [if_neg (by omega), a2 h0]; exact h1
    · obtain ⟨b1, b2⟩ := a1 i (by omega)
      rw [if_neg e, if_neg e]
      refine ⟨b1, fun h0 => ?_⟩
      rw [if_neg (by omega)]; exact b2 h0
  · rw [Nat.add_sub_cancel, hiA_set hk, if_pos rfl]
theorem laidG_canon {M : List (Int × Int)} {cur : Int} (h : LaidG M.length M cur) : canon M = true := (canon_iff M).2 h.1

end Go.Proofs.Ymbrbi
