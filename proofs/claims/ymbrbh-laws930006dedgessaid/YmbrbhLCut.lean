/-
  In a canonical list a cut is one place.
-/
import Derived.Test.YmbrbhWSearch
import Derived.Test.YmbrbhLCanon
namespace Go.Proofs.Ymbrbh

theorem hi_mono {L : List (Int × Int)} (hc : canon L = true) {i : Nat} : ∀ {j : Nat}, i ≤ j → j < L.length → hiA L i ≤ hiA L j := by
  intro j
  induction j with
  | zero => intro h _; have : i = 0 := by omega
            subst this; exact Int.le_refl _
  | succ j ih =>
    intro h hj
    by_cases e : i = j + 1
    · subst e; exact Int.le_refl _
    · have h1 := ih (by omega) (by omega)
      obtain ⟨h2, h3⟩ := (canon_iff L).1 hc (j + 1) hj
      have h4 := h3 (by omega)
      simp at h4
      omega
theorem cut_one {L : List (Int × Int)} (hc : canon L = true) {x : Int} {i j : Nat} (hi : Cut L x i) (hj : Cut L x j) : i = j := by
  obtain ⟨a1, a2, a3⟩ := hi
  obtain ⟨b1, b2, b3⟩ := hj
  rcases Nat.lt_trichotomy i j with h | h | h
  · have h1 := a2 (by omega)
    have h2 := b3 (by omega)
    have h3 := hi_mono hc (show i ≤ j - 1 by omega) (by omega)
    omega
  · exact h
  · have h1 := b2 (by omega)
    have h2 := a3 (by omega)
    have h3 := hi_mono hc (show j ≤ i - 1 by omega) (by omega)
    omega

end Go.Proofs.Ymbrbh
