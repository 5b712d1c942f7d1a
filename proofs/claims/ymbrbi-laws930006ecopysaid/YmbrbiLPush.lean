/-
  push keeps a list canonical.
-/
import Derived.Test.YmbrbiLCanon
import Derived.Test.YmbrbiPPush
namespace Go.Proofs.Ymbrbi

theorem loA_set {M : List (Int × Int)} {k i : Nat} {p : Int × Int} (hk : k < M.length) : loA (M.set k p) i = if i = k then p.1 else loA M i := by
  unfold loA
  by_cases h : i = k
  · subst h; simp [List.getD, hk]
  · rw [if_neg h]; simp [List.getD, show ¬ k = i from fun e => h e.symm]
theorem hiA_set {M : List (Int × Int)} {k i : Nat} {p : Int × Int} (hk : k < M.length) : hiA (M.set k p) i = if i = k then p.2 else hiA M i := by
  unfold hiA
  by_cases h : i = k
  · subst h; simp [List.getD, hk]
  · rw [if_neg h]; simp [List.getD, show ¬ k = i from fun e => h e.symm]

theorem push_canon {M : List (Int × Int)} {p : Int × Int} (hc : canon M = true) (hl : 0 < M.length → loA M (M.length - 1) ≤ p.1) (hp : p.1 < p.2) :
    canon (pushL M p) = true ∧ 0 < (pushL M p).length ∧ loA (pushL M p) ((pushL M p).length - 1) ≤ p.1 := by
  unfold pushL
  split
  · rename_i h0
    refine ⟨(canon_snoc M p).2 ⟨hc, hp, fun h => by omega⟩, by simp, ?_⟩
    simp [loA_snoc]
  · rename_i h0
    have hl' := hl (by omega)
    split
    · rename_i h1
      refine ⟨(canon_snoc M p).2 ⟨hc, hp, fun _ => h1⟩, by simp, ?_⟩
      simp [loA_snoc]
    · split
      · rename_i h2
        refine ⟨?_, by simp; omega, ?_⟩
        · rw [canon_iff] at hc ⊢
          intro i hi
          have hi' : i < M.length := by simpa using hi
          obtain ⟨e1, e2⟩ := hc i hi'
          rw [loA_set (by omega), hiA_set (by omega), hiA_set (by omega)]
          by_cases e : i = M.length - 1
          · rw [if_pos e, if_pos e]
            subst e
            refine ⟨by simp; omega, fun h => ?_⟩
            rw [if_neg (by omega)]
            exact e2 h
          · rw [if_neg e, if_neg e]
            refine ⟨e1, fun h => ?_⟩
            rw [if_neg (by omega)]
            exact e2 h
        · rw [List.length_set, loA_set (by omega), if_pos rfl]; exact hl'
      · exact ⟨hc, by omega, hl'⟩

end Go.Proofs.Ymbrbi
