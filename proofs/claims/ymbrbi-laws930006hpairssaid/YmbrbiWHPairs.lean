import Derived.Test.YmbrbiWFrom
import Derived.Test.YmbrbiWInt
import Derived.Test.YmbrbiWEq
import Derived.Test.YmbrbiWPairs
import Derived.Deep.RegionWith
namespace Go.Proofs.Ymbrbi
open Go.RowKit

set_option maxHeartbeats 2000000 in
theorem walk_HPairs (va : Value) (A : List (Int × Int)) (vb : Value) (B : List (Int × Int)) (w : World) (ha : Sl .i64 w va A) (_ : RL .i64 A) (hb : Sl .i64 w vb B) (_ : RL .i64 B) :
    Calls Ybim.prog 13 #[va, vb] w fun e w' => e = .returned (.bool true) ∧ Below w.heap.size w w' := by
  have ha' := ha
  have hb' := hb
  obtain ⟨aa, ca, rfl, hla, hma, hca⟩ := ha
  obtain ⟨ab, cb, rfl, hlb, hmb, hcb⟩ := hb
  clear hca hcb
  by_cases hbig : 1024 < A.length
  · go_enter Ybim.func13, Ybim.ntmps13
    go_wp2
    go_ret
    exact ⟨rfl, Below.refl _ _⟩
  by_cases hbig2 : 1024 < B.length
  · go_enter Ybim.func13, Ybim.ntmps13
    go_wp2
    go_ret
    exact ⟨rfl, Below.refl _ _⟩
  · have hfA := fromS_length A
    have hfB := fromS_length B
    have f1 : eqL (inter (fromS A) (fromS B)) (pairsL (fromS A) (fromS B)) = true := by rw [inter_pairs (fromS_canon _) (fromS_canon _)]; simp [eqL]
    go_enter Ybim.func13, Ybim.ntmps13
    go_wp2_with fail
    refine (from_any _ A _ ha' (by omega)).mono ?_
    rintro e w3 ⟨v3, rfl, hsl3, _, hbl3⟩
    obtain ⟨a3, n3, c3, hv3⟩ := hsl3.shape
    subst hv3
    have hs23 := hb'.below hbl3
    go_wp2_with fail
    refine (from_any _ B _ hs23 (by omega)).mono ?_
    rintro e w4 ⟨v4, rfl, hsl4, _, hbl4⟩
    obtain ⟨a4, n4, c4, hv4⟩ := hsl4.shape
    subst hv4
    have hB4 := hbl3.trans (hbl4.mono hbl3.size)
    have hs34 := hsl3.below hbl4
    generalize fromS A = S at *
    generalize fromS B = T at *
    go_wp2_with fail
    refine (int_any _ _ S T _ ((hs34.alloc _).alloc _) ((hsl4.alloc _).alloc _) (by omega) (by omega)).mono ?_
    rintro e w5 ⟨v5, rfl, hsl5, _, hbl5⟩
    obtain ⟨a5, n5, c5, hv5⟩ := hsl5.shape
    subst hv5
    have hx5 : w5.cell? ⟨w4.heap.size, 0, none⟩ = some (.slice a3 n3 c3) := (hbl5.cell (p := ⟨w4.heap.size, 0, none⟩) (by simp; omega)).trans (by simp [go_sem])
    have hy5 : w5.cell? ⟨w4.heap.size + 1, 0, none⟩ = some (.slice a4 n4 c4) := (hbl5.cell (p := ⟨w4.heap.size + 1, 0, none⟩) (by simp)).trans (by simp [go_sem])
    have hS5 := ((hs34.alloc _).alloc _).below hbl5
    have hT5 := ((hsl4.alloc _).alloc _).below hbl5
    have hB5 := hB4.trans ((Below.ofAlloc ((Below.ofAlloc hbl5) : Below (w4.alloc _).heap.size (w4.alloc _) w5)).mono hB4.size)
    have hz5 := hbl5.size
    simp only [World.size_alloc] at hz5
    have hz5a : w4.heap.size < w5.heap.size := by omega
    have hz5b : w4.heap.size + 1 < w5.heap.size := by omega
    clear hbl3 hbl4 hbl5 hs23 hs34 hsl3 hsl4 hB4
    go_wp2_with fail
    have hX : (w5.alloc (.cells #[.slice a5 n5 c5] 24)).cell? ⟨w4.heap.size, 0, none⟩ = some (.slice a3 n3 c3) := by rw [World.cell?_alloc_lt]; exact hx5; exact hz5a
    have hY : (w5.alloc (.cells #[.slice a5 n5 c5] 24)).cell? ⟨w4.heap.size + 1, 0, none⟩ = some (.slice a4 n4 c4) := by rw [World.cell?_alloc_lt]; exact hy5; exact hz5b
    have hZ : (w5.alloc (.cells #[.slice a5 n5 c5] 24)).cell? ⟨w5.heap.size, 0, none⟩ = some (.slice a5 n5 c5) := by simp [go_sem]
    have hS := hS5.alloc (.cells #[.slice a5 n5 c5] 24)
    have hT := hT5.alloc (.cells #[.slice a5 n5 c5] 24)
    have hR := hsl5.alloc (.cells #[.slice a5 n5 c5] 24)
    have hBW := hB5.alloc hB5.size (.cells #[.slice a5 n5 c5] 24)
    have hzR : w5.heap.size < (w5.alloc (.cells #[.slice a5 n5 c5] 24)).heap.size := by simp
    generalize w5.alloc (.cells #[.slice a5 n5 c5] 24) = W at *
    clear hx5 hy5 hS5 hT5 hsl5 hB5 hz5
    go_region_with (first | (go_at_call 31; refine (pairs_any _ _ S T _ (by exact hS) (by exact hT) (by omega) (by omega)).mono ?_; rintro e w6 ⟨v6, rfl, hsl6, hb6⟩; obtain ⟨a6, n6, c6, hv6⟩ := hsl6.shape; subst hv6; have hb6' := Below.undrew hb6; have hz6 := (hb6'.cell (p := ⟨w5.heap.size, 0, none⟩) hzR).trans hZ) | (go_at_call 30; refine (eq_heq _ _ (inter S T) (pairsL S T) _ (by exact hR.below hb6') (by exact hsl6)).mono ?_; rintro e w7 ⟨rfl, hb7⟩; rw [f1]))
    all_goals
      have hbF := (hBW.trans (hb6'.mono hBW.size)).trans (hb7.mono (Nat.le_trans hBW.size hb6'.size))
      go_wp2
      go_ret
      exact ⟨rfl, hbF⟩

end Go.Proofs.Ymbrbi
