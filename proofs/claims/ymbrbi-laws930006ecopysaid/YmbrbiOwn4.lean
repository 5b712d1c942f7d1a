/-
  An append told by the cells of what is appended, in whatever world.
-/
import Derived.Test.YmbrbiOwn3
namespace Go.Proofs.Ymbrbi
open Go.RowKit

theorem wp_app3 {ops : Array Oper} {rest : List Oper} {o : Oper} {a : Act} {Q : Exit → Act → World → Prop} (W : World) (lo hi : Int) (hgd : o.guard = none) (s x : Operand)
    (ho : o.op = .call { callee := .builtin .append, args := #[s, x], argTypes := #[22, 22] })
    (base : Nat) (ao : Option Addr) (cap n : Nat) (L : List (Int × Int)) (hs : a.eval s = .slice ao n cap) (hown : Own W base ao cap n L) (g : Nat)
    (hx : a.eval x = .slice (some ⟨g, 0, none⟩) 1 1) (hc0 : W.cell? ⟨g, 0, none⟩ = some (.int .i64 lo)) (hc1 : W.cell? ⟨g, 1, none⟩ = some (.int .i64 hi)) (hn : n ≤ 100000000) (hbase : base ≤ W.heap.size)
    (h : ∀ ao' cap' w', Own w' base ao' cap' (n + 1) (L ++ [(lo, hi)]) → Below base W w' → Keeps W w' (.slice ao n cap) → wpList Ybim.prog ops Q rest (a.put o.dst (.slice ao' (n + 1) cap')) w') :
    wpList Ybim.prog ops Q (o :: rest) a W := by
  obtain ⟨i0, hi0, hz0, hz1, hz2⟩ := info_parts infoSpan
  have hnews : ∀ j u, (cellsL [(lo, hi)])[j]? = some u → W.cell? ((⟨g, 0, none⟩ : Addr).add j) = some u := by
    intro j u hj
    match j, hj with
    | 0, hj => simp [cellsL] at hj; subst hj; simpa [Addr.add] using hc0
    | 1, hj => simp [cellsL] at hj; subst hj; simpa [Addr.add] using hc1
  refine wpList_append_own _ hgd s x 22 ho base 26 i0 (.agg #[.int .i64 0, .int .i64 0]) 2 16 Ybim.underlying22 hi0 hz0 hz1 hz2 rfl (by decide) _ n (cellsL L) hs hown.2
    ⟨g, 0, none⟩ 1 1 (cellsL [(lo, hi)]) hx rfl hnews (oneCell_pair lo hi) (by unfold maxLen; omega) (by omega) hbase ?_
  intro v' w' h1 h2 _
  rw [← cellsL_append] at h1
  have hv : ∃ ao' cap', v' = .slice ao' (n + 1) cap' := by
    rcases h1.2 with ⟨rfl, h3⟩ | ⟨g, c, cur, rfl, _⟩
    · omega
    · exact ⟨_, _, rfl⟩
  obtain ⟨ao', cap', rfl⟩ := hv
  exact h ao' cap' w' ⟨by simp [hown.1], h1⟩ (Below.grown (Below.refl base W) h2 hbase fun k hk => (hown.2.lt k hk).1) h2

theorem Own.drew {w : World} {base : Nat} {ao : Option Addr} {cap n : Nat} {L : List (Int × Int)} (h : Own w base ao cap n L) : Own w.drew base ao cap n L := ⟨h.1, h.2⟩

end Go.Proofs.Ymbrbi
