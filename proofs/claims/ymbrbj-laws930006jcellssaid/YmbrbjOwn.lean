/-
  A slice of spans that the call itself builds by make and append.
-/
import Derived.Test.YmbrbjProg
import Derived.Test.YmbrbjPlain
import Derived.OwnWalk
import Derived.Laws.OwnMore
namespace Go.Proofs.Ymbrbj
open Go.RowKit

theorem infoSpan : (Ybjm.prog.info? 28).map (fun i => (i.zero, i.size, i.bytes)) = some (some (.agg #[.int .i64 0, .int .i64 0]), 2, 16) := by kernel_rfl

/-- The cells of a list of spans. -/
def cellsL : List (Int × Int) → List Value
  | [] => []
  | p :: R => .int .i64 p.1 :: .int .i64 p.2 :: cellsL R

theorem cellsL_length (L : List (Int × Int)) : (cellsL L).length = L.length * 2 := by
  induction L with
  | nil => rfl
  | cons p R ih => simp [cellsL, ih]; omega
theorem cellsL_append (A B : List (Int × Int)) : cellsL (A ++ B) = cellsL A ++ cellsL B := by
  induction A with
  | nil => rfl
  | cons p R ih => simp [cellsL, ih]
theorem cellsL_at (L : List (Int × Int)) : ∀ i, i < L.length → (cellsL L)[i * 2]? = some (.int .i64 (loA L i)) ∧ (cellsL L)[i * 2 + 1]? = some (.int .i64 (hiA L i)) := by
  induction L with
  | nil => intro i hi; simp at hi
  | cons p R ih =>
    intro i hi
    cases i with
    | zero => simp [cellsL, loA, hiA]
    | succ i =>
      have := ih i (by simpa using hi)
      have e1 : (i + 1) * 2 = i * 2 + 1 + 1 := by omega
      rw [e1]
      simpa [cellsL, loA, hiA] using this

/-- The slice '.slice ao n cap' is the call's own (blocks from 'base' on), and reads as L. -/
def Own (w : World) (base : Nat) (ao : Option Addr) (cap n : Nat) (L : List (Int × Int)) : Prop :=
  L.length = n ∧ w.ownsRow base 28 2 (.slice ao n cap) n (cellsL L)

theorem Own.nil (w : World) (base : Nat) : Own w base none 0 0 [] := ⟨rfl, World.ownsRow_nil _ _ _ _⟩

theorem Own.alloc {w : World} {base : Nat} {ao : Option Addr} {cap n : Nat} {L : List (Int × Int)} (h : Own w base ao cap n L) (o : Obj) : Own (w.alloc o) base ao cap n L :=
  ⟨h.1, h.2.alloc o⟩

theorem Own.setBelow {w : World} {base : Nat} {ao : Option Addr} {cap n : Nat} {L : List (Int × Int)} (h : Own w base ao cap n L) {a : Addr} (ha : a.block < base) (u : Value) : Own (w.setCell a u) base ao cap n L :=
  ⟨h.1, ownsRow_setCell_below h.2 ha u⟩

theorem Own.drewN {w : World} {base : Nat} {ao : Option Addr} {cap n : Nat} {L : List (Int × Int)} (h : Own w base ao cap n L) (m : Nat) : Own (w.drewN m) base ao cap n L :=
  ⟨h.1, h.2⟩

/-- A world that is the same from 'base' up to the heap's end: what is owned stays owned. -/
theorem Own.below {w w' : World} {base : Nat} {ao : Option Addr} {cap n : Nat} {L : List (Int × Int)} (h : Own w base ao cap n L) (hb : Below w.heap.size w w') : Own w' base ao cap n L := by
  obtain ⟨h1, h2, h3⟩ := h
  refine ⟨h1, h2, ?_⟩
  rcases h3 with h3 | ⟨g, c, cur, e1, e2, e3, e4⟩
  · exact .inl h3
  · refine .inr ⟨g, c, cur, e1, e2, ?_, e4⟩
    have : g < w.heap.size := by
      rcases Nat.lt_or_ge g w.heap.size with h | h
      · exact h
      · rw [Array.getElem?_eq_none h] at e3; simp at e3
    rw [hb.block g this]; exact e3

theorem Own.sl {w : World} {base : Nat} {ao : Option Addr} {cap n : Nat} {L : List (Int × Int)} (h : Own w base ao cap n L) : Sl .i64 w (.slice ao n cap) L := by
  obtain ⟨h1, h2⟩ := h
  subst h1
  have h3 := h2.2
  rcases h3 with ⟨h3, h4⟩ | ⟨g, c, cur, e1, e2, e3, e4, e5, _⟩
  · simp only [Value.slice.injEq] at h3
    obtain ⟨rfl, h5, rfl⟩ := h3
    exact ⟨none, 0, rfl, by omega, by omega, fun h => by omega⟩
  · simp only [Value.slice.injEq, true_and] at e1
    obtain ⟨rfl, rfl⟩ := e1
    refine ⟨some ⟨g, 0, none⟩, cap, rfl, e4, e5, fun _ => ⟨g, 0, rfl, ?_, fun i hi => ?_⟩⟩
    · rcases Nat.lt_or_ge g w.heap.size with h | h
      · exact h
      · rw [Array.getElem?_eq_none h] at e3; simp at e3
    · have c0 := h2.cellAt (i * 2) (by omega)
      have c1 := h2.cellAt (i * 2 + 1) (by omega)
      rw [(cellsL_at L i hi).1] at c0
      rw [(cellsL_at L i hi).2] at c1
      exact ⟨by simpa using c0, by simpa using c1⟩

theorem Own.fr {w : World} {base : Nat} {ao : Option Addr} {cap n : Nat} {L : List (Int × Int)} (h : Own w base ao cap n L) : Fr base (.slice ao n cap) := fun g hg => (h.2.lt g hg).1

theorem oneCell_pair (lo hi : Int) : ∀ u ∈ cellsL [(lo, hi)], u.oneCell' = true := by
  intro u hu
  simp [cellsL] at hu
  rcases hu with rfl | rfl <;> rfl

/-- 'out = append(out, p)', out the call's own: p has been laid in a block of its own. -/
theorem wp_app {ops : Array Oper} {rest : List Oper} {o : Oper} {a : Act} {Q : Exit → Act → World → Prop} (w0 : World) (lo hi : Int) (hgd : o.guard = none) (s x : Operand)
    (ho : o.op = .call { callee := .builtin .append, args := #[s, x], argTypes := #[22, 22] })
    (base : Nat) (ao : Option Addr) (cap n : Nat) (L : List (Int × Int)) (hs : a.eval s = .slice ao n cap) (hown : Own w0 base ao cap n L)
    (hx : a.eval x = .slice (some ⟨w0.heap.size, 0, none⟩) 1 1) (hn : n ≤ 1000000) (hbase : base ≤ w0.heap.size)
    (h : ∀ ao' cap' w', Own w' base ao' cap' (n + 1) (L ++ [(lo, hi)]) → Below base w0 w' → wpList Ybjm.prog ops Q rest (a.put o.dst (.slice ao' (n + 1) cap')) w') :
    wpList Ybjm.prog ops Q (o :: rest) a (w0.alloc (.cells #[.int .i64 lo, .int .i64 hi] 28)) := by
  obtain ⟨i0, hi0, hz0, hz1, hz2⟩ := info_parts infoSpan
  refine wpList_append_own _ hgd s x 22 ho base 28 i0 (.agg #[.int .i64 0, .int .i64 0]) 2 16 Ybjm.underlying22 hi0 hz0 hz1 hz2 rfl (by decide) _ n (cellsL L) hs (hown.2.alloc _)
    ⟨w0.heap.size, 0, none⟩ 1 1 (cellsL [(lo, hi)]) hx rfl (cell_two_new w0 _ _ _) (oneCell_pair lo hi) (by unfold maxLen; omega) (by omega) (by simp; omega) ?_
  intro v' w' h1 h2 _
  rw [← cellsL_append] at h1
  have hv : ∃ ao' cap', v' = .slice ao' (n + 1) cap' := by
    rcases h1.2 with ⟨rfl, h3⟩ | ⟨g, c, cur, rfl, _⟩
    · omega
    · exact ⟨_, _, rfl⟩
  obtain ⟨ao', cap', rfl⟩ := hv
  refine h ao' cap' w' ⟨by simp [hown.1], h1⟩ ?_
  refine Below.grown ((Below.refl base w0).alloc hbase _) h2 (by simp; omega) fun k hk => ?_
  exact (hown.2.lt k hk).1

/-- 'make([]Span, 0, c)'. -/
theorem wp_mk0 {ops : Array Oper} {rest : List Oper} {o : Oper} {a : Act} {Q : Exit → Act → World → Prop} (w : World) (B : Nat) (hB : B = w.heap.size) (hgd : o.guard = none) (l c : Operand) (hop : o.op = Op.makeSlice 22 l c)
    (C : Int) (n : Nat) (hl : a.eval l = .int .i64 0) (hc : a.eval c = .int .i64 C) (hC : C = (n : Int)) (hn : n ≤ 1000000)
    (h : ∀ w', Own w' B (some ⟨B, 0, none⟩) n 0 [] → Below B w w' → wpList Ybjm.prog ops Q rest (a.put o.dst (.slice (some ⟨B, 0, none⟩) 0 n)) w') :
    wpList Ybjm.prog ops Q (o :: rest) a w := by
  subst hB
  obtain ⟨i0, hi0, hz0, hz1, hz2⟩ := info_parts infoSpan
  refine wpList_make_own w hgd l c 22 hop w.heap.size 28 i0 (.agg #[.int .i64 0, .int .i64 0]) 2 Ybjm.underlying22 hi0 hz0 hz1 .i64 .i64 C n hl hc hC (by rw [hz2]; omega) (by unfold maxLen; omega) (Nat.le_refl _) ?_
  intro w' h1 h2
  exact h w' ⟨rfl, h1⟩ (Below.grown (Below.refl _ _) h2 (Nat.le_refl _) (fun k hk => by cases hk))

end Go.Proofs.Ymbrbj
