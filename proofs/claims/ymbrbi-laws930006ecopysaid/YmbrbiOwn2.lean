/-
  More on a slice of spans that the call itself makes: make([]Span, n), a store into it, copy into it.
-/
import Derived.Test.YmbrbiOwn
import Derived.Laws.CopyRow
import Derived.Laws.MakeOwn
import Derived.Laws.IdiomCopy
namespace Go.Proofs.Ymbrbi
open Go.RowKit

theorem madeCells_pairs (n : Nat) : (madeCells #[.int .i64 0, .int .i64 0] (n * 2)).toList = cellsL (List.replicate n (0, 0)) := by
  apply List.ext_getElem?
  intro j
  by_cases hj : j < n * 2
  · have h2 : j % 2 = 0 ∨ j % 2 = 1 := by omega
    have hL : (madeCells #[Value.int .i64 0, .int .i64 0] (n * 2)).toList[j]? = some (.int .i64 0) := by
      rcases h2 with h | h <;> simp [madeCells, hj, h]
    rw [hL]
    have hr : ∀ i, i < n → loA (List.replicate n ((0 : Int), (0 : Int))) i = 0 ∧ hiA (List.replicate n ((0 : Int), (0 : Int))) i = 0 := by
      intro i hi; simp [loA, hiA, List.getD, hi]
    have hc := cellsL_at (List.replicate n ((0 : Int), (0 : Int))) (j / 2) (by simp; omega)
    obtain ⟨h3, h4⟩ := hr (j / 2) (by omega)
    rw [h3, h4] at hc
    rcases h2 with h | h
    · rw [show j = j / 2 * 2 by omega]; exact hc.1.symm
    · rw [show j = j / 2 * 2 + 1 by omega]; exact hc.2.symm
  · have h1 : (madeCells #[Value.int .i64 0, .int .i64 0] (n * 2)).toList.length ≤ j := by simp [madeCells]; omega
    have h2 : (cellsL (List.replicate n (0, 0))).length ≤ j := by rw [cellsL_length]; simp; omega
    rw [List.getElem?_eq_none h1, List.getElem?_eq_none h2]

/-- 'make([]Span, n)'. -/
theorem wp_mkN {ops : Array Oper} {rest : List Oper} {o : Oper} {a : Act} {Q : Exit → Act → World → Prop} (w : World) (B : Nat) (hB : B = w.heap.size) (hgd : o.guard = none) (l c : Operand) (hop : o.op = Op.makeSlice 22 l c)
    (n : Nat) (hl : a.eval l = .int .i64 (n : Int)) (hc : a.eval c = .int .i64 (n : Int)) (hn : n ≤ 1000000)
    (h : ∀ w', Own w' B (some ⟨B, 0, none⟩) n n (List.replicate n (0, 0)) → Below B w w' → wpList Ybim.prog ops Q rest (a.put o.dst (.slice (some ⟨B, 0, none⟩) n n)) w') :
    wpList Ybim.prog ops Q (o :: rest) a w := by
  subst hB
  obtain ⟨i0, hi0, hz0, hz1, hz2⟩ := info_parts infoSpan
  refine wpList_make_full w hgd l c 22 hop w.heap.size 26 i0 (.agg #[.int .i64 0, .int .i64 0]) 2 Ybim.underlying22 hi0 hz0 hz1 .i64 .i64 n n n hl hc rfl rfl (by rw [hz2]; omega) (by unfold maxLen; omega) (Nat.le_refl _) ?_
  intro w' h1 h2
  refine h w' ⟨by simp, ?_⟩ (Below.grown (Below.refl _ _) h2 (Nat.le_refl _) (fun k hk => by cases hk))
  rw [← madeCells_pairs]
  exact h1

theorem cellsL_set (L : List (Int × Int)) : ∀ (k : Nat) (p : Int × Int), k < L.length → ((cellsL L).set (k * 2) (.int .i64 p.1)).set (k * 2 + 1) (.int .i64 p.2) = cellsL (L.set k p) := by
  induction L with
  | nil => intro k p h; simp at h
  | cons q R ih =>
    intro k p h
    cases k with
    | zero => simp [cellsL]
    | succ k =>
      have e1 : (k + 1) * 2 = k * 2 + 1 + 1 := by omega
      rw [e1]
      simp only [cellsL, List.set_cons_succ]
      rw [ih k p (by simpa using h)]

/-- 'out[k] = Span{lo, hi}', out the call's own. -/
theorem Own.store {w : World} {base g cap n : Nat} {L : List (Int × Int)} (h : Own w base (some ⟨g, 0, none⟩) cap n L) {k : Nat} (hk : k < n) (lo hi : Int) :
    Own ((w.setCell ⟨g, k * 2, none⟩ (.int .i64 lo)).setCell ⟨g, k * 2 + 1, none⟩ (.int .i64 hi)) base (some ⟨g, 0, none⟩) cap n (L.set k (lo, hi)) := by
  obtain ⟨h1, h2⟩ := h
  have h3 := h2.stored (k * 2) (.int .i64 lo)
  have h4 := h3.1.stored (k * 2 + 1) (.int .i64 hi)
  refine ⟨by simpa using h1, ?_⟩
  rw [← cellsL_set L k (lo, hi) (by omega)]
  exact h4.1
theorem Own.lo {w : World} {base g cap n : Nat} {L : List (Int × Int)} (h : Own w base (some ⟨g, 0, none⟩) cap n L) {k : Nat} (hk : k < n) : w.cell? ⟨g, k * 2, none⟩ = some (.int .i64 (loA L k)) := by
  rw [h.2.cellAt (k * 2) (by omega)]; exact (cellsL_at L k (by have := h.1; omega)).1
theorem Own.hi {w : World} {base g cap n : Nat} {L : List (Int × Int)} (h : Own w base (some ⟨g, 0, none⟩) cap n L) {k : Nat} (hk : k < n) : w.cell? ⟨g, k * 2 + 1, none⟩ = some (.int .i64 (hiA L k)) := by
  rw [h.2.cellAt (k * 2 + 1) (by omega)]; exact (cellsL_at L k (by have := h.1; omega)).2
theorem Own.froz {w : World} {base g cap n : Nat} {L : List (Int × Int)} (h : Own w base (some ⟨g, 0, none⟩) cap n L) (j : Nat) : w.frozen? ⟨g, j, none⟩ = false := h.2.frozenAt j
theorem Own.base_le {w : World} {base g cap n : Nat} {L : List (Int × Int)} (h : Own w base (some ⟨g, 0, none⟩) cap n L) : base ≤ g ∧ g < w.heap.size := h.2.lt g rfl

theorem Own.mono {w : World} {B B' : Nat} {ao : Option Addr} {cap n : Nat} {L : List (Int × Int)} (h : Own w B ao cap n L) (hB : B' ≤ B) : Own w B' ao cap n L := by
  obtain ⟨h1, h2, h3⟩ := h
  refine ⟨h1, h2, ?_⟩
  rcases h3 with h3 | ⟨g, c, cur, e1, e2, e3⟩
  · exact .inl h3
  · exact .inr ⟨g, c, cur, e1, Nat.le_trans hB e2, e3⟩

theorem oneCell_all (L : List (Int × Int)) : ∀ u ∈ cellsL L, u.oneCell' = true := by
  induction L with
  | nil => intro u hu; simp [cellsL] at hu
  | cons p R ih =>
    intro u hu
    simp [cellsL] at hu
    rcases hu with rfl | rfl | hu
    · rfl
    · rfl
    · exact ih u hu

theorem CellsAt.all {w : World} {b off : Nat} {L : List (Int × Int)} (h : CellsAt .i64 w b off L) : ∀ j u, (cellsL L)[j]? = some u → w.cell? ((⟨b, off, none⟩ : Addr).add j) = some u := by
  intro j u hj
  have hlt : j < L.length * 2 := by
    rcases Nat.lt_or_ge j (L.length * 2) with h | h
    · exact h
    · rw [List.getElem?_eq_none (by rw [cellsL_length]; exact h)] at hj; simp at hj
  have hi : j / 2 < L.length := by omega
  obtain ⟨c0, c1⟩ := h (j / 2) hi
  obtain ⟨d0, d1⟩ := cellsL_at L (j / 2) hi
  have hadd : (⟨b, off, none⟩ : Addr).add j = ⟨b, off + j, none⟩ := Addr.add_lit _ _ _
  rw [hadd]
  have h2 : j = j / 2 * 2 ∨ j = j / 2 * 2 + 1 := by omega
  rcases h2 with e | e
  · rw [e] at hj ⊢; rw [d0] at hj; rw [c0, hj]
  · rw [e] at hj ⊢; rw [d1] at hj; rw [← Nat.add_assoc, c1, hj]

/-- 'copy(out, xs)' where out is the call's own and both are n spans long. -/
theorem wp_copy {ops : Array Oper} {rest : List Oper} {o : Oper} {a : Act} {Q : Exit → Act → World → Prop} (w : World) (hgd : o.guard = none) (d s : Operand)
    (ho : o.op = .call { callee := .builtin .copy, args := #[d, s], argTypes := #[22, 22] })
    (base g n : Nat) (ao : Option Addr) (cap : Nat) (M L : List (Int × Int)) (hd : a.eval d = .slice (some ⟨g, 0, none⟩) n n) (hs : a.eval s = .slice ao n cap)
    (hown : Own w base (some ⟨g, 0, none⟩) n n M) (hsl : Sl .i64 w (.slice ao n cap) L)
    (h : ∀ w', Own w' base (some ⟨g, 0, none⟩) n n L → Below base w w' → wpList Ybim.prog ops Q rest (a.put o.dst (goInt n)) w') :
    wpList Ybim.prog ops Q (o :: rest) a w := by
  obtain ⟨i0, hi0, hz0, hz1, hz2⟩ := info_parts infoSpan
  obtain ⟨ao', cap', hv, hl, hm, hcell⟩ := hsl
  simp only [Value.slice.injEq] at hv
  obtain ⟨rfl, rfl, rfl⟩ := hv
  refine wpList_plain hgd fun K hK => ?_
  unfold Oper.wp
  by_cases h0 : L.length = 0
  · have hload : ∀ (x : Addr), (loadCells x 0).run Ybim.prog w = .ok #[] w := fun x => by simpa using run_loadCells_list (P := Ybim.prog) w x [] (by simp)
    have hrun : (Builtin.copy_ #[22, 22] o.type #[.slice (some ⟨g, 0, none⟩) L.length L.length, .slice ao L.length cap]).run Ybim.prog w = .ok (goInt 0) w := by
      cases ao <;> simp [Builtin.copy_, run_underlying Ybim.underlying22, Builtin.lenOf, Builtin.firstCells, sizeOf, typeInfo, hi0, h0, storeCells, hload]
    simp [execOp, ho, resolve, invoke, builtin, hd, hs, hrun, Result.andThen]
    have hL : L = [] := List.eq_nil_of_length_eq_zero h0
    have hM : M = L := by rw [hL]; exact List.eq_nil_of_length_eq_zero (by rw [hown.1, h0])
    have := h w (hM ▸ hown) (Below.refl _ _)
    rw [h0] at this
    exact hK _ _ this
  · obtain ⟨b, off, rfl, hb, hc⟩ := hcell (by omega)
    rcases hown.2.2 with ⟨h', _⟩ | ⟨g', c', cur, h', hg1, hg, hnc, hcm, hcs, htake⟩
    · simp at h'
    simp only [Value.slice.injEq, Option.some.injEq, Addr.mk.injEq, and_true, true_and] at h'
    obtain ⟨rfl, rfl⟩ := h'
    have hlen : (cellsL L).length = L.length * i0.size := by rw [hz1]; exact cellsL_length L
    have hf := run_firstCells_some (P := Ybim.prog) w i0.size L.length ⟨b, off, none⟩ L.length cap (cellsL L) hlen hc.all
    have hst := run_storeCells_at Ybim.prog g 0 26 (cellsL L) 0 cur w hg (by rw [cellsL_length]; omega) (oneCell_all L)
    have hrow : (cur.toList.take (0 + 0) ++ cellsL L ++ cur.toList.drop (0 + 0 + (cellsL L).length)).toArray = (cellsL L).toArray := by
      rw [List.drop_eq_nil_of_le (by rw [cellsL_length]; simp; omega)]; simp
    rw [hrow] at hst
    have hrun : (Builtin.copy_ #[22, 22] o.type #[.slice (some ⟨g, 0, none⟩) L.length L.length, .slice (some ⟨b, off, none⟩) L.length cap]).run Ybim.prog w = .ok (goInt L.length) (w.setRow g (cellsL L).toArray) := by
      have hmin : Nat.min L.length L.length = L.length := Nat.min_self _
      simp [Builtin.copy_, run_underlying Ybim.underlying22, Builtin.lenOf, sizeOf, typeInfo, hi0, hf, hst, hmin]
    simp [execOp, ho, resolve, invoke, builtin, hd, hs, hrun, Result.andThen]
    refine hK _ _ (h _ ⟨rfl, cellsL_length L, .inr ⟨g, L.length, (cellsL L).toArray, rfl, hg1, setRow_heap w g _ _ _ _ hg, hnc, hcm, by simp [cellsL_length], by simp [List.take_of_length_le, cellsL_length]⟩⟩ ?_)
    exact ⟨rfl, rfl, rfl, by simp [World.setRow], fun k hk => setRow_other w g k _ (by omega)⟩

end Go.Proofs.Ymbrbi
