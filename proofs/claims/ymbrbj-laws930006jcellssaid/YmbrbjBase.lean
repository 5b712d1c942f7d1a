/-
  Slices of pairs of integers, as a walk wants to be told of them. No program in sight.
-/
import Derived.WalkKit
import Derived.WalkSpells
import Derived.WalkLawsBesides
namespace Go.Proofs.Ymbrbj
open Go.RowKit

/-- The first and the second number of pair i (0 behind the end). -/
def loA (L : List (Int × Int)) (i : Nat) : Int := (L.getD i (0, 0)).1
def hiA (L : List (Int × Int)) (i : Nat) : Int := (L.getD i (0, 0)).2

/-- The pairs L lie at block b, from off on. -/
def CellsAt (k : IntKind) (w : World) (b off : Nat) (L : List (Int × Int)) : Prop :=
  ∀ i, i < L.length → w.cell? ⟨b, off + i * 2, none⟩ = some (.int k (loA L i)) ∧ w.cell? ⟨b, off + i * 2 + 1, none⟩ = some (.int k (hiA L i))

theorem CellsAt.get {k : IntKind} {w wr : World} {b off B : Nat} {L : List (Int × Int)} (h : CellsAt k w b off L) (hbel : Below B w wr) (hb : b < B) {i : Nat} (hi : i < L.length) :
    wr.cell? ⟨b, off + i * 2, none⟩ = some (.int k (loA L i)) ∧ wr.cell? ⟨b, off + i * 2 + 1, none⟩ = some (.int k (hiA L i)) :=
  ⟨(hbel.cell (p := ⟨b, off + i * 2, none⟩) hb).trans (h i hi).1, (hbel.cell (p := ⟨b, off + i * 2 + 1, none⟩) hb).trans (h i hi).2⟩

/-- v is a slice of pairs of integers of kind k that reads as L in the world w. -/
def Sl (k : IntKind) (w : World) (v : Value) (L : List (Int × Int)) : Prop :=
  ∃ ao cap, v = .slice ao L.length cap ∧ L.length ≤ cap ∧ cap ≤ 9223372036854775807 ∧
    (0 < L.length → ∃ b off, ao = some ⟨b, off, none⟩ ∧ b < w.heap.size ∧ CellsAt k w b off L)

/-- v is a slice of one-cell elements that reads as the cells L in the world w. -/
def Sl1 (w : World) (v : Value) (L : List Value) : Prop :=
  ∃ ao cap, v = .slice ao L.length cap ∧ L.length ≤ cap ∧ cap ≤ 9223372036854775807 ∧
    (0 < L.length → ∃ b off, ao = some ⟨b, off, none⟩ ∧ b < w.heap.size ∧ ∀ i, i < L.length → w.cell? ⟨b, off + i, none⟩ = some (L.getD i default))

/-- Each number of the pairs fits its kind. -/
def RL (k : IntKind) (L : List (Int × Int)) : Prop := ∀ p ∈ L, (Lit.int k p.1).wf = true ∧ (Lit.int k p.2).wf = true

theorem hide {p : Prop} (h : p) : Hid p := h
theorem ret_int {k : IntKind} {a b : Int} (h : a = b) : Ending.returned (.int k a) = .returned (.int k b) := by rw [h]
theorem ret_bool {a b : Bool} (h : a = b) : Ending.returned (.bool a) = .returned (.bool b) := by rw [h]

theorem Sl.below {k : IntKind} {w w' : World} {v : Value} {L : List (Int × Int)} (h : Sl k w v L) (hb : Below w.heap.size w w') : Sl k w' v L := by
  obtain ⟨ao, cap, h1, h2, h3, h4⟩ := h
  refine ⟨ao, cap, h1, h2, h3, fun h0 => ?_⟩
  obtain ⟨b, off, h5, h6, h7⟩ := h4 h0
  refine ⟨b, off, h5, Nat.lt_of_lt_of_le h6 hb.size, fun i hi => ?_⟩
  rw [hb.cell (p := ⟨b, off + i * 2, none⟩) h6, hb.cell (p := ⟨b, off + i * 2 + 1, none⟩) h6]
  exact h7 i hi

theorem Sl1.below {w w' : World} {v : Value} {L : List Value} (h : Sl1 w v L) (hb : Below w.heap.size w w') : Sl1 w' v L := by
  obtain ⟨ao, cap, h1, h2, h3, h4⟩ := h
  refine ⟨ao, cap, h1, h2, h3, fun h0 => ?_⟩
  obtain ⟨b, off, h5, h6, h7⟩ := h4 h0
  refine ⟨b, off, h5, Nat.lt_of_lt_of_le h6 hb.size, fun i hi => ?_⟩
  rw [hb.cell (p := ⟨b, off + i, none⟩) h6]
  exact h7 i hi

/-- The slice v' is v itself, or lies in a block from B on. -/
def New (B : Nat) (v v' : Value) : Prop := v' = v ∨ ∀ g, v'.ownBlock = some g → B ≤ g
/-- The slice v lies in no block below B. -/
def Fr (B : Nat) (v : Value) : Prop := ∀ g, v.ownBlock = some g → B ≤ g

theorem New.fr {B B' : Nat} {v v' : Value} (h : New B v v') (hv : Fr B' v) (hB : B' ≤ B) : Fr B' v' := by
  rcases h with rfl | h
  · exact hv
  · exact fun g hg => Nat.le_trans hB (h g hg)

theorem Sl.setCell {k : IntKind} {w : World} {v : Value} {L : List (Int × Int)} {B : Nat} (h : Sl k w v L) (hf : Fr B v) {a : Addr} (ha : a.block < B) (u : Value) : Sl k (w.setCell a u) v L := by
  obtain ⟨ao, cap, rfl, h2, h3, h4⟩ := h
  refine ⟨ao, cap, rfl, h2, h3, fun h0 => ?_⟩
  obtain ⟨b, off, rfl, h6, h7⟩ := h4 h0
  have hb := hf b rfl
  have e : ∀ o, (w.setCell a u).cell? ⟨b, o, none⟩ = w.cell? ⟨b, o, none⟩ := fun o => World.cell?_of_block (w := w) (Below.heap_setCell _ _ _ _ (by simp; omega))
  exact ⟨b, off, rfl, by simpa [World.setCell] using h6, fun i hi => by rw [e, e]; exact h7 i hi⟩

theorem Sl.nil (k : IntKind) (w : World) : Sl k w (.slice none 0 0) [] := ⟨none, 0, rfl, Nat.le_refl _, by omega, fun h => absurd h (by simp)⟩
theorem Fr.nil (B : Nat) : Fr B (.slice none 0 0) := fun g hg => by cases hg
theorem Sl.shape {k : IntKind} {w : World} {v : Value} {L : List (Int × Int)} (h : Sl k w v L) : ∃ ao n cap, v = .slice ao n cap := by
  obtain ⟨ao, cap, h1, _⟩ := h
  exact ⟨ao, _, cap, h1⟩

theorem Sl.alloc {k : IntKind} {w : World} {v : Value} {L : List (Int × Int)} (h : Sl k w v L) (o : Obj) : Sl k (w.alloc o) v L :=
  h.below ((Below.refl _ _).alloc (Nat.le_refl _) o)
theorem Below.undrew {B : Nat} {w w1 : World} (h : Below B w.drew w1) : Below B w w1 := ((Below.refl _ _).drew).trans h
theorem Below.undrewN {B n : Nat} {w w1 : World} (h : Below B (w.drewN n) w1) : Below B w w1 := (below_drewN (Below.refl _ _) n).trans h
theorem Below.ofAlloc {w w1 : World} {o : Obj} (h : Below (w.alloc o).heap.size (w.alloc o) w1) : Below w.heap.size w w1 :=
  ((Below.refl _ _).alloc (Nat.le_refl _) o).trans (h.mono (by simp))

end Go.Proofs.Ymbrbj
