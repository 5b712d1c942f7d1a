/-
  Slices of pairs of integers, as a walk wants to be told of them. No program in sight.
-/
import Derived.WalkKit
import Derived.WalkSpells
import Derived.WalkLawsBesides
namespace Go.Proofs.Ymbrbh
open Go.RowKit

/-- The first and the second number of pair i (0 behind the end). -/
def loA (L : List (Int × Int)) (i : Nat) : Int := (L.getD i (0, 0)).1
def hiA (L : List (Int × Int)) (i : Nat) : Int := (L.getD i (0, 0)).2

/-- v is a slice of pairs of integers of kind k that reads as L in the world w. -/
def Sl (k : IntKind) (w : World) (v : Value) (L : List (Int × Int)) : Prop :=
  ∃ ao cap, v = .slice ao L.length cap ∧ L.length ≤ cap ∧ cap ≤ 9223372036854775807 ∧
    (0 < L.length → ∃ b off, ao = some ⟨b, off, none⟩ ∧ b < w.heap.size ∧ ∀ i, i < L.length → w.cell? ⟨b, off + i * 2, none⟩ = some (.int k (loA L i)) ∧ w.cell? ⟨b, off + i * 2 + 1, none⟩ = some (.int k (hiA L i)))

/-- v is a slice of one-cell elements that reads as the cells L in the world w. -/
def Sl1 (w : World) (v : Value) (L : List Value) : Prop :=
  ∃ ao cap, v = .slice ao L.length cap ∧ L.length ≤ cap ∧ cap ≤ 9223372036854775807 ∧
    (0 < L.length → ∃ b off, ao = some ⟨b, off, none⟩ ∧ b < w.heap.size ∧ ∀ i, i < L.length → w.cell? ⟨b, off + i, none⟩ = some (L.getD i default))

/-- Each number of the pairs fits its kind. -/
def RL (k : IntKind) (L : List (Int × Int)) : Prop := ∀ p ∈ L, (Lit.int k p.1).wf = true ∧ (Lit.int k p.2).wf = true

theorem ret_int {k : IntKind} {a b : Int} (h : a = b) : Ending.returned (.int k a) = .returned (.int k b) := by rw [h]
theorem ret_bool {a b : Bool} (h : a = b) : Ending.returned (.bool a) = .returned (.bool b) := by rw [h]

theorem Sl.below {k : IntKind} {w w' : World} {v : Value} {L : List (Int × Int)} (h : Sl k w v L) (hb : Below w.heap.size w w') : Sl k w' v L := by
  obtain ⟨ao, cap, h1, h2, h3, h4⟩ := h
  refine ⟨ao, cap, h1, h2, h3, fun h0 => ?_⟩
  obtain ⟨b, off, h5, h6, h7⟩ := h4 h0
  refine ⟨b, off, h5, Nat.lt_of_lt_of_le h6 hb.size, fun i hi => ?_⟩
  rw [hb.cell (p := ⟨b, off + i * 2, none⟩) h6, hb.cell (p := ⟨b, off + i * 2 + 1, none⟩) h6]
  exact h7 i hi

theorem Sl1.below {w w' : World} {v : Value} {L : List Value} (h : Sl1 w v L) (hb : Below w.heap.size w w') : Sl1 w' v L := by
  obtain ⟨ao, cap, h1, h2, h3, h4⟩ := h
  refine ⟨ao, cap, h1, h2, h3, fun h0 => ?_⟩
  obtain ⟨b, off, h5, h6, h7⟩ := h4 h0
  refine ⟨b, off, h5, Nat.lt_of_lt_of_le h6 hb.size, fun i hi => ?_⟩
  rw [hb.cell (p := ⟨b, off + i, none⟩) h6]
  exact h7 i hi

end Go.Proofs.Ymbrbh
