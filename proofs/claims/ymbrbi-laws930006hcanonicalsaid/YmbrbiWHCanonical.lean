import Derived.Test.YmbrbiWFrom
import Derived.Test.YmbrbiWInt
import Derived.Test.YmbrbiWEq
import Derived.Test.YmbrbiWCanon
import Derived.Test.YmbrbiWSpans
import Derived.Test.YmbrbiThyInt
import Derived.Deep.RegionWith
import Derived.Deep.DeepCutAuto
namespace Go.Proofs.Ymbrbi
open Go.RowKit

/-- Both copies read as the sets. -/
def TwoSl (W : World) (S T : List (Int × Int)) (u v : Value) (wc : World) : Prop :=
  (∃ ua un uc, u = .slice ua un uc) ∧ (∃ va vn vc, v = .slice va vn vc) ∧ Sl .i64 wc u S ∧ Sl .i64 wc v T ∧ Below W.heap.size W wc

set_option maxHeartbeats 4000000 in
theorem walk_HCanonical (va : Value) (A : List (Int × Int)) (vb : Value) (B : List (Int × Int)) (w : World) (ha : Sl .i64 w va A) (_ : RL .i64 A) (hb : Sl .i64 w vb B) (_ : RL .i64 B) :
    Calls Ybim.prog 14 #[va, vb] w fun e w' => e = .returned (.bool true) ∧ Below w.heap.size w w' := by
  have ha' := ha
  have hb' := hb
  obtain ⟨aa, ca, rfl, hla, hma, hca⟩ := ha
  obtain ⟨ab, cb, rfl, hlb, hmb, hcb⟩ := hb
  clear hca hcb
  by_cases hbig : 1024 < A.length
  · go_enter Ybim.func14, Ybim.ntmps14
    go_wp2
    go_ret
    exact ⟨rfl, Below.refl _ _⟩
  by_cases hbig2 : 1024 < B.length
  · go_enter Ybim.func14, Ybim.ntmps14
    go_wp2
    go_ret
    exact ⟨rfl, Below.refl _ _⟩
  · have hfA := fromS_length A
    have hfB := fromS_length B
    have f1 := inter_canon (fromS_canon A) (fromS_canon B)
    have f2 : eqL (inter (fromS A) (fromS B)) (inter (fromS B) (fromS A)) = true := by rw [inter_comm (fromS_canon _) (fromS_canon _)]; simp [eqL]
    have f3 : eqL (fromS A) (fromS A) = true := by simp [eqL]
    have f4 : eqL (fromS B) (fromS B) = true := by simp [eqL]
    go_enter Ybim.func14, Ybim.ntmps14
    go_wp2_with fail
    refine (from_any _ A _ ha' (by omega)).mono ?_
    rintro e w3 ⟨v3, rfl, hsl3, _, hbl3⟩
    obtain ⟨a3, n3, c3, hv3⟩ := hsl3.shape
    subst hv3
    have hs23 := hb'.below hbl3
    go_wp2_with fail
    refine (from_any _ B _ hs23 (by omega)).mono ?_
    rintro e w4 ⟨v4, rfl, hsl4, _, hbl4⟩
    obtain ⟨a4, n4, c4, hv4⟩ := hsl4.shape
    subst hv4
    have hB4 := hbl3.trans (hbl4.mono hbl3.size)
    have hs34 := hsl3.below hbl4
    generalize fromS A = S at *
    generalize fromS B = T at *
    go_wp2_with fail
    have hX : ((w4.alloc (.cells #[.slice a3 n3 c3] 24)).alloc (.cells #[.slice a4 n4 c4] 24)).cell? ⟨w4.heap.size, 0, none⟩ = some (.slice a3 n3 c3) := by simp [go_sem]
    have hY : ((w4.alloc (.cells #[.slice a3 n3 c3] 24)).alloc (.cells #[.slice a4 n4 c4] 24)).cell? ⟨w4.heap.size + 1, 0, none⟩ = some (.slice a4 n4 c4) := by simp [go_sem]
    have hS := (hs34.alloc (.cells #[.slice a3 n3 c3] 24)).alloc (.cells #[.slice a4 n4 c4] 24)
    have hT := (hsl4.alloc (.cells #[.slice a3 n3 c3] 24)).alloc (.cells #[.slice a4 n4 c4] 24)
    have hBW := (hB4.alloc hB4.size (.cells #[.slice a3 n3 c3] 24)).alloc (by have := hB4.size; simp; omega) (.cells #[.slice a4 n4 c4] 24)
    have hzW : ((w4.alloc (.cells #[.slice a3 n3 c3] 24)).alloc (.cells #[.slice a4 n4 c4] 24)).heap.size = w4.heap.size + 2 := by simp
    generalize (w4.alloc (.cells #[.slice a3 n3 c3] 24)).alloc (.cells #[.slice a4 n4 c4] 24) = W at *
    have hzX : w4.heap.size < W.heap.size := by omega
    have hzY : w4.heap.size + 1 < W.heap.size := by omega
    clear hbl3 hbl4 hs23 hs34 hsl3 hsl4 hB4 hzW
    go_cut [7, 8] (fun u v wc => TwoSl W S T u v wc)
    case first =>
      have tok1 : True := trivial
      go_region_with (first | (go_at_call 15; have _t := tok1; refine (spans_any _ S _ (by exact hS) (by omega)).mono ?_; rintro e w6 ⟨g6, rfl, hown6, hb6⟩; clear tok1; have hb6' := Below.undrew hb6; have hx6 := (hb6'.cell (p := ⟨w4.heap.size, 0, none⟩) hzX).trans hX; have hy6 := (hb6'.cell (p := ⟨w4.heap.size + 1, 0, none⟩) hzY).trans hY; have hT6 := hT.below hb6') | (go_at_call 15; refine (spans_any _ T _ (by exact hT6) (by omega)).mono ?_; rintro e w7 ⟨g7, rfl, hown7, hb7⟩))
      all_goals
        go_wp2_with fail
        go_meet
        case rel => exact ⟨⟨_, _, _, rfl⟩, ⟨_, _, _, rfl⟩, hown6.sl.below hb7, hown7.sl, hb6'.trans (hb7.mono hb6'.size)⟩
    case rest =>
      obtain ⟨⟨ua, un, uc, hu⟩, ⟨va2, vn, vc, hv⟩, hKS, hKT, hbc⟩ := hcut
      subst hu
      subst hv
      have hXc := (hbc.cell (p := ⟨w4.heap.size, 0, none⟩) hzX).trans hX
      have hYc := (hbc.cell (p := ⟨w4.heap.size + 1, 0, none⟩) hzY).trans hY
      have hSc := hS.below hbc
      have hTc := hT.below hbc
      have hBc := hBW.trans (hbc.mono hBW.size)
      have hzc := hbc.size
      have zX : w4.heap.size < wc.heap.size := by omega
      have zY : w4.heap.size + 1 < wc.heap.size := by omega
      clear hX hY hS hT hBW hbc hzc hzX hzY
      go_wp2_with fail
      refine (int_any _ _ S T _ hSc hTc (by omega) (by omega)).mono ?_
      rintro e w6 ⟨v6, rfl, hsl6, _, hb6⟩
      obtain ⟨a6, n6, c6, hv6⟩ := hsl6.shape
      subst hv6
      have hX6 := (hb6.cell (p := ⟨w4.heap.size, 0, none⟩) zX).trans hXc
      have hY6 := (hb6.cell (p := ⟨w4.heap.size + 1, 0, none⟩) zY).trans hYc
      have hS6 := hSc.below hb6
      have hT6 := hTc.below hb6
      have hKS6 := hKS.below hb6
      have hKT6 := hKT.below hb6
      have hB6 := hBc.trans (hb6.mono hBc.size)
      have hz6 := hb6.size
      have zX6 : w4.heap.size < w6.heap.size := by omega
      have zY6 : w4.heap.size + 1 < w6.heap.size := by omega
      clear hXc hYc hSc hTc hKS hKT hBc hb6 zX zY
      go_wp2_with fail
      refine (int_any _ _ T S _ (hT6.alloc _) (hS6.alloc _) (by omega) (by omega)).mono ?_
      rintro e w7 ⟨v7, rfl, hsl7, _, hb7⟩
      obtain ⟨a7, n7, c7, hv7⟩ := hsl7.shape
      subst hv7
      have hR7 : w7.cell? ⟨w6.heap.size, 0, none⟩ = some (.slice a6 n6 c6) := (hb7.cell (p := ⟨w6.heap.size, 0, none⟩) (by simp)).trans (by simp [go_sem])
      have hb7' := Below.ofAlloc hb7
      have hX7 := (hb7'.cell (p := ⟨w4.heap.size, 0, none⟩) zX6).trans hX6
      have hY7 := (hb7'.cell (p := ⟨w4.heap.size + 1, 0, none⟩) zY6).trans hY6
      have hsl67 := hsl6.below hb7'
      have hS7 := hS6.below hb7'
      have hT7 := hT6.below hb7'
      have hKS7 := hKS6.below hb7'
      have hKT7 := hKT6.below hb7'
      have hB7 := hB6.trans (hb7'.mono hB6.size)
      have hz7 := hb7.size
      simp only [World.size_alloc] at hz7
      have zR7 : w6.heap.size < w7.heap.size := by omega
      have zX7 : w4.heap.size < w7.heap.size := by omega
      have zY7 : w4.heap.size + 1 < w7.heap.size := by omega
      clear hX6 hY6 hsl6 hS6 hT6 hKS6 hKT6 hB6 hb7 hb7' zX6 zY6 hz6
      go_wp2_with fail
      refine (canon_hcanon _ (inter S T) _ (hsl67.alloc _)).mono ?_
      rintro e w8 ⟨rfl, hb8⟩
      rw [f1]
      have hU8 : w8.cell? ⟨w7.heap.size, 0, none⟩ = some (.slice a7 n7 c7) := (hb8.cell (p := ⟨w7.heap.size, 0, none⟩) (by simp)).trans (by simp [go_sem])
      have hb8' := Below.ofAlloc hb8
      have hR8 := (hb8'.cell (p := ⟨w6.heap.size, 0, none⟩) zR7).trans hR7
      have hX8 := (hb8'.cell (p := ⟨w4.heap.size, 0, none⟩) zX7).trans hX7
      have hY8 := (hb8'.cell (p := ⟨w4.heap.size + 1, 0, none⟩) zY7).trans hY7
      have hz8 := hb8.size
      simp only [World.size_alloc] at hz8
      have hB8 := hB7.trans (hb8'.mono hB7.size)
      go_wp2_with fail
      refine (eq_heq _ _ (inter S T) (inter T S) _ (hsl67.below hb8') (hsl7.below hb8')).mono ?_
      rintro e w9 ⟨rfl, hb9⟩
      rw [f2]
      have hX9 := (hb9.cell (p := ⟨w4.heap.size, 0, none⟩) (by simp; omega)).trans hX8
      have hY9 := (hb9.cell (p := ⟨w4.heap.size + 1, 0, none⟩) (by simp; omega)).trans hY8
      have hz9 := hb9.size
      have hB9 := hB8.trans (hb9.mono hB8.size)
      have hb89 := hb8'.trans (hb9.mono (by omega))
      go_wp2_with fail
      refine (eq_heq _ _ S S _ (hS7.below hb89) (hKS7.below hb89)).mono ?_
      rintro e w10 ⟨rfl, hb10⟩
      rw [f3]
      have hY10 := (hb10.cell (p := ⟨w4.heap.size + 1, 0, none⟩) (by simp; omega)).trans hY9
      have hB10 := hB9.trans (hb10.mono hB9.size)
      have hb810 := hb89.trans (hb10.mono (by omega))
      go_wp2_with fail
      refine (eq_heq _ _ T T _ (hT7.below hb810) (hKT7.below hb810)).mono ?_
      rintro e w11 ⟨rfl, hb11⟩
      rw [f4]
      go_wp2_with fail
      go_ret
      exact ⟨rfl, hB10.trans (hb11.mono hB10.size)⟩

end Go.Proofs.Ymbrbi
