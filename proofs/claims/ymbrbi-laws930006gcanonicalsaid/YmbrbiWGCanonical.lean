import Derived.Test.YmbrbiWFrom
import Derived.Test.YmbrbiWSpans
import Derived.Test.YmbrbiWRem
import Derived.Test.YmbrbiWCanon
import Derived.Test.YmbrbiWEq
import Derived.Test.YmbrbiThyRem
namespace Go.Proofs.Ymbrbi
open Go.RowKit

theorem eqL_refl (A : List (Int × Int)) : eqL A A = true := by simp [eqL]

set_option maxHeartbeats 1000000 in
theorem walk_GCanonical (v : Value) (L : List (Int × Int)) (lo hi : Int) (w : World) (hs : Sl .i64 w v L) (_ : RL .i64 L) (_ : (Lit.int .i64 lo).wf = true) (_ : (Lit.int .i64 hi).wf = true) :
    Calls Ybim.prog 10 #[v, .int .i64 lo, .int .i64 hi] w fun e w' => e = .returned (.bool true) ∧ Below w.heap.size w w' := by
  have hs' := hs
  obtain ⟨ao, cap, rfl, hl, hm, hcell⟩ := hs
  clear hcell
  by_cases hbig : 1024 < L.length
  · go_enter Ybim.func10, Ybim.ntmps10
    go_wp2
    go_ret
    exact ⟨rfl, Below.refl _ _⟩
  · have hlen := fromS_length L
    have f1 := remove_canon (fromS_canon L) lo hi
    have f2 := eqL_refl (fromS L)
    have f3 : hi ≤ lo → eqL (remove (fromS L) lo hi) (fromS L) = true := fun h => by rw [remove_same h]; exact f2
    go_enter Ybim.func10, Ybim.ntmps10
    go_wp2_with fail
    refine (from_any _ L _ hs' (by omega)).mono ?_
    rintro e w1 ⟨v1, rfl, hsl1, _, hb1⟩
    obtain ⟨a1, n1, c1, hv1⟩ := hsl1.shape
    subst hv1
    go_wp2_with fail
    refine (spans_any _ (fromS L) _ (hsl1.alloc _) (by omega)).mono ?_
    rintro e w2 ⟨g2, rfl, hown2, hb2⟩
    have hx2 : w2.cell? ⟨w1.heap.size, 0, none⟩ = some (.slice a1 n1 c1) := (hb2.cell (p := ⟨w1.heap.size, 0, none⟩) (by simp)).trans (by simp [go_sem])
    have hsl2 := (hsl1.alloc _).below hb2
    have hb2' := hb1.trans ((Below.ofAlloc hb2).mono hb1.size)
    have hz2 := hb2.size
    simp only [World.size_alloc] at hz2
    clear hb2
    go_wp2_with fail
    refine (rem_any _ (fromS L) lo hi _ hsl2 (by omega)).mono ?_
    rintro e w3 ⟨v3, rfl, hsl3, _, hb3⟩
    obtain ⟨a3, n3, c3, hv3⟩ := hsl3.shape
    subst hv3
    have hx3 := (hb3.cell (p := ⟨w1.heap.size, 0, none⟩) (by simp; omega)).trans hx2
    have hown3 := hown2.sl.below hb3
    have hsl23 := hsl2.below hb3
    have hb3' := hb2'.trans (hb3.mono hb2'.size)
    have hz3 := hb3.size
    clear hb3 hx2
    go_wp2_with fail
    refine (canon_gcanon _ (remove (fromS L) lo hi) _ (hsl3.alloc _)).mono ?_
    rintro e w4 ⟨rfl, hb4⟩
    rw [f1]
    have hx4 : w4.cell? ⟨w1.heap.size, 0, none⟩ = some (.slice a1 n1 c1) := (hb4.cell (p := ⟨w1.heap.size, 0, none⟩) (by simp; omega)).trans (by rw [World.cell?_alloc_lt]; exact hx3; simp; omega)
    have hx4' : w4.cell? ⟨w3.heap.size, 0, none⟩ = some (.slice a3 n3 c3) := (hb4.cell (p := ⟨w3.heap.size, 0, none⟩) (by simp)).trans (by simp [go_sem])
    have hb4' := hb3'.trans ((Below.ofAlloc hb4).mono hb3'.size)
    go_wp2_with fail
    refine (eq_geq _ _ (fromS L) (fromS L) _ ((hsl23.alloc _).below hb4) ((hown3.alloc _).below hb4)).mono ?_
    rintro e w5 ⟨rfl, hb5⟩
    rw [f2]
    have hz4 := hb4.size
    simp only [World.size_alloc] at hz4
    have hx5 := (hb5.cell (p := ⟨w3.heap.size, 0, none⟩) (by simp; omega)).trans hx4'
    have hb5' := hb4'.trans (hb5.mono hb4'.size)
    have hA := ((hsl3.alloc _).below hb4).below hb5
    have hB := ((hown3.alloc _).below hb4).below hb5
    clear hb5 hb4 hx4 hx4' hx3
    rcases Int.lt_or_le lo hi with h0 | h0
    · go_wp2_with fail
      go_ret
      exact ⟨rfl, hb5'⟩
    · have f4 := f3 h0
      go_wp2_with fail
      refine (eq_geq _ _ (remove (fromS L) lo hi) (fromS L) _ hA hB).mono ?_
      rintro e w6 ⟨rfl, hb6⟩
      rw [f4]
      go_wp2_with fail
      go_ret
      exact ⟨rfl, hb5'.trans (hb6.mono hb5'.size)⟩

end Go.Proofs.Ymbrbi
