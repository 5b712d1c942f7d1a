/-
  An append that tells of all other blocks that they stay.
-/
import Derived.Test.YmbrbiOwn2
namespace Go.Proofs.Ymbrbi
open Go.RowKit

/-- All blocks of w but v's own are in w' as they were. -/
def Keeps (w w' : World) (v : Value) : Prop := w.grownBy w' v.ownBlock

theorem Keeps.cell {w w' : World} {v : Value} (h : Keeps w w' v) {b o : Nat} (hb : b < w.heap.size) (hne : some b ≠ v.ownBlock) : w'.cell? ⟨b, o, none⟩ = w.cell? ⟨b, o, none⟩ :=
  World.cell?_of_block (w := w) (a := ⟨b, o, none⟩) (h.block b hb hne)
theorem Keeps.frozen {w w' : World} {v : Value} (h : Keeps w w' v) {b o : Nat} (hb : b < w.heap.size) (hne : some b ≠ v.ownBlock) : w'.frozen? ⟨b, o, none⟩ = w.frozen? ⟨b, o, none⟩ :=
  World.frozen?_of_block (w := w) (a := ⟨b, o, none⟩) (h.block b hb hne)

/-- A block that was not there when the slice was owned is not the slice's. -/
theorem Own.ne {w : World} {base : Nat} {ao : Option Addr} {cap n : Nat} {L : List (Int × Int)} (h : Own w base ao cap n L) {b : Nat} (hb : w.heap.size ≤ b) : some b ≠ (Value.slice ao n cap).ownBlock := by
  intro e
  have := (h.2.lt b e.symm).2
  omega

theorem wp_app2 {ops : Array Oper} {rest : List Oper} {o : Oper} {a : Act} {Q : Exit → Act → World → Prop} (w0 : World) (lo hi : Int) (hgd : o.guard = none) (s x : Operand)
    (ho : o.op = .call { callee := .builtin .append, args := #[s, x], argTypes := #[22, 22] })
    (base : Nat) (ao : Option Addr) (cap n : Nat) (L : List (Int × Int)) (hs : a.eval s = .slice ao n cap) (hown : Own w0 base ao cap n L) (g : Nat)
    (hx : a.eval x = .slice (some ⟨g, 0, none⟩) 1 1) (hg : g = w0.heap.size) (hn : n ≤ 100000000) (hbase : base ≤ w0.heap.size)
    (h : ∀ ao' cap' w', Own w' base ao' cap' (n + 1) (L ++ [(lo, hi)]) → Below base w0 w' → Keeps w0 w' (.slice ao n cap) → wpList Ybim.prog ops Q rest (a.put o.dst (.slice ao' (n + 1) cap')) w') :
    wpList Ybim.prog ops Q (o :: rest) a (w0.alloc (.cells #[.int .i64 lo, .int .i64 hi] 26)) := by
  subst hg
  obtain ⟨i0, hi0, hz0, hz1, hz2⟩ := info_parts infoSpan
  refine wpList_append_own _ hgd s x 22 ho base 26 i0 (.agg #[.int .i64 0, .int .i64 0]) 2 16 Ybim.underlying22 hi0 hz0 hz1 hz2 rfl (by decide) _ n (cellsL L) hs (hown.2.alloc _)
    ⟨w0.heap.size, 0, none⟩ 1 1 (cellsL [(lo, hi)]) hx rfl (cell_two_new w0 _ _ _) (oneCell_pair lo hi) (by unfold maxLen; omega) (by omega) (by simp; omega) ?_
  intro v' w' h1 h2 _
  rw [← cellsL_append] at h1
  have hv : ∃ ao' cap', v' = .slice ao' (n + 1) cap' := by
    rcases h1.2 with ⟨rfl, h3⟩ | ⟨g, c, cur, rfl, _⟩
    · omega
    · exact ⟨_, _, rfl⟩
  obtain ⟨ao', cap', rfl⟩ := hv
  refine h ao' cap' w' ⟨by simp [hown.1], h1⟩ ?_ ?_
  · refine Below.grown ((Below.refl base w0).alloc hbase _) h2 (by simp; omega) fun k hk => ?_
    exact (hown.2.lt k hk).1
  · have ha := World.grownBy_alloc w0 (.cells #[.int .i64 lo, .int .i64 hi] 26) (Value.slice ao n cap).ownBlock
    exact ⟨h2.os.trans ha.os, h2.tape.trans ha.tape, h2.output.trans ha.output, Nat.le_trans ha.size h2.size, fun k hk hne => (h2.block k (by simp; omega) hne).trans (ha.block k hk hne)⟩

end Go.Proofs.Ymbrbi
