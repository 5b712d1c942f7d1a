/-
  Sets of small bounds: ranks at the borders.
-/
import Derived.Test.YmbrbjThyCnt
import Derived.OpenShut
namespace Go.Proofs.Ymbrbj
open Go.RowKit

theorem RL.i8 {L : List (Int × Int)} {k : Nat} (h : RL .i8 L) (hk : k < L.length) : (-128 ≤ loA L k ∧ loA L k ≤ 127) ∧ (-128 ≤ hiA L k ∧ hiA L k ≤ 127) :=
  ⟨bounds_i8 (h _ (pair_mem hk)).1, bounds_i8 (h _ (pair_mem hk)).2⟩
theorem i8_i64 {x : Int} (h : -128 ≤ x ∧ x ≤ 127) : (Lit.int .i64 x).wf = true := by
  obtain ⟨h1, h2⟩ := h
  simp [Lit.wf, IntKind.min, IntKind.max, IntKind.signed, IntKind.bits]
  omega
/-- What the small bounds give for the set made of them. -/
structure Small (S : List (Int × Int)) : Prop where
  rl : RL .i64 S
  can : Can (-129) S
  low : rank S (-128) = 0
  top : ∀ x, 127 ≤ x → rank S x = cnt S
  low' : ∀ x, x ≤ -128 → rank S x = 0
theorem small_of {L : List (Int × Int)} (h : RL .i8 L) : Small (fromS L) := by
  have h8 : ∀ p ∈ fromS L, (-128 ≤ p.1 ∧ p.1 ≤ 127) ∧ (-128 ≤ p.2 ∧ p.2 ≤ 127) := fromS_all (P := fun x => -128 ≤ x ∧ x ≤ 127) (fun p hp => ⟨bounds_i8 (h p hp).1, bounds_i8 (h p hp).2⟩)
  have hc : Can (-129) (fromS L) := can_of (fromS_canon L) (fun p hp => by have := (h8 p hp).1.1; omega)
  exact ⟨fun p hp => ⟨i8_i64 (h8 p hp).1, i8_i64 (h8 p hp).2⟩, hc, rank_low hc (by omega), fun x hx => rank_top (fun p hp => by have := (h8 p hp).2.2; omega), fun x hx => rank_low hc (by omega)⟩

end Go.Proofs.Ymbrbj
