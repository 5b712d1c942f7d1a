/-
  Canonical lists, plainly.
-/
import Derived.Test.YmbrbjPlain
namespace Go.Proofs.Ymbrbj

theorem loA_cons (p : Int × Int) (R : List (Int × Int)) (i : Nat) : loA (p :: R) (i + 1) = loA R i := by simp [loA]
theorem hiA_cons (p : Int × Int) (R : List (Int × Int)) (i : Nat) : hiA (p :: R) (i + 1) = hiA R i := by simp [hiA]
theorem loA_zero (p : Int × Int) (R : List (Int × Int)) : loA (p :: R) 0 = p.1 := by simp [loA]
theorem hiA_zero (p : Int × Int) (R : List (Int × Int)) : hiA (p :: R) 0 = p.2 := by simp [hiA]

theorem canonF_iff : ∀ (L : List (Int × Int)) (q : Option Int), canonF q L = true ↔ (∀ i, i < L.length → loA L i < hiA L i ∧ (0 < i → hiA L (i - 1) < loA L i)) ∧ (0 < L.length → gapOk q (loA L 0) = true) := by
  intro L
  induction L with
  | nil => intro q; simp [canonF]
  | cons p R ih =>
    intro q
    rw [canonF, Bool.and_eq_true, Bool.and_eq_true, ih (some p.2), decide_eq_true_eq, loA_zero]
    constructor
    · rintro ⟨⟨h1, h2⟩, h3, h4⟩
      refine ⟨fun i hi => ?_, fun _ => h2⟩
      cases i with
      | zero => rw [loA_zero, hiA_zero]; exact ⟨h1, fun h => absurd h (by omega)⟩
      | succ i =>
        have hi' : i < R.length := by simpa using hi
        rw [loA_cons, hiA_cons]
        refine ⟨(h3 i hi').1, fun _ => ?_⟩
        cases i with
        | zero =>
          have := h4 hi'
          simp [gapOk] at this
          simpa [hiA_zero] using this
        | succ i => have := (h3 (i + 1) hi').2 (by omega); simpa [hiA_cons] using this
    · rintro ⟨h1, h2⟩
      refine ⟨⟨by have := (h1 0 (by simp)).1; rwa [loA_zero, hiA_zero] at this, h2 (by simp)⟩, fun i hi => ?_, fun h => ?_⟩
      · have := h1 (i + 1) (by simpa using hi)
        rw [loA_cons, hiA_cons] at this
        refine ⟨this.1, fun h0 => ?_⟩
        obtain ⟨j, rfl⟩ : ∃ j, i = j + 1 := ⟨i - 1, by omega⟩
        have := this.2 (by omega)
        simpa [hiA_cons] using this
      · have := (h1 1 (by simpa using h)).2 (by omega)
        simp [gapOk]
        simpa [loA_cons, hiA_zero] using this

theorem canon_iff (L : List (Int × Int)) : canon L = true ↔ ∀ i, i < L.length → loA L i < hiA L i ∧ (0 < i → hiA L (i - 1) < loA L i) := by
  rw [canon, canonF_iff]
  simp [gapOk]

theorem loA_append_left {A B : List (Int × Int)} {i : Nat} (h : i < A.length) : loA (A ++ B) i = loA A i := by simp [loA, List.getD, List.getElem?_append_left h]
theorem hiA_append_left {A B : List (Int × Int)} {i : Nat} (h : i < A.length) : hiA (A ++ B) i = hiA A i := by simp [hiA, List.getD, List.getElem?_append_left h]
theorem loA_snoc (A : List (Int × Int)) (p : Int × Int) : loA (A ++ [p]) A.length = p.1 := by simp [loA, List.getD]
theorem hiA_snoc (A : List (Int × Int)) (p : Int × Int) : hiA (A ++ [p]) A.length = p.2 := by simp [hiA, List.getD]

theorem canon_snoc (M : List (Int × Int)) (p : Int × Int) : canon (M ++ [p]) = true ↔ canon M = true ∧ p.1 < p.2 ∧ (0 < M.length → hiA M (M.length - 1) < p.1) := by
  rw [canon_iff, canon_iff]
  constructor
  · intro h
    refine ⟨fun i hi => ?_, ?_, fun h0 => ?_⟩
    · have := h i (by simp; omega)
      rw [loA_append_left hi, hiA_append_left hi] at this
      refine ⟨this.1, fun h0 => ?_⟩
      have := this.2 h0
      rwa [hiA_append_left (by omega)] at this
    · have := (h M.length (by simp)).1
      rwa [loA_snoc, hiA_snoc] at this
    · have := (h M.length (by simp)).2 h0
      rwa [loA_snoc, hiA_append_left (by omega)] at this
  · rintro ⟨h1, h2, h3⟩ i hi
    by_cases e : i = M.length
    · subst e
      rw [loA_snoc, hiA_snoc]
      exact ⟨h2, fun h0 => by rw [hiA_append_left (by omega)]; exact h3 h0⟩
    · have hi' : i < M.length := by simp at hi; omega
      rw [loA_append_left hi', hiA_append_left hi']
      exact ⟨(h1 i hi').1, fun h0 => by rw [hiA_append_left (by omega)]; exact (h1 i hi').2 h0⟩
theorem canon_snoc_eq (M : List (Int × Int)) (p : Int × Int) (c : Bool) (h : (p.1 < p.2 ∧ (0 < M.length → hiA M (M.length - 1) < p.1)) ↔ c = true) : canon (M ++ [p]) = (canon M && c) := by
  rw [Bool.eq_iff_iff, canon_snoc, Bool.and_eq_true, h]

end Go.Proofs.Ymbrbj
