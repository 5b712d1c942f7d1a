import Derived.Test.YmbrbiWFrom
import Derived.Test.YmbrbiWRem
import Derived.Test.YmbrbiWEq
import Derived.Test.YmbrbiThyRem
import Derived.Test.YmbrbiField
import Derived.Deep.RegionWith
namespace Go.Proofs.Ymbrbi
open Go.RowKit

set_option maxHeartbeats 2000000 in
theorem walk_GAdd (v : Value) (L : List (Int × Int)) (lo hi : Int) (w : World) (hs : Sl .i64 w v L) (_ : RL .i64 L) (_ : (Lit.int .i64 lo).wf = true) (_ : (Lit.int .i64 hi).wf = true) :
    Calls Ybim.prog 11 #[v, .int .i64 lo, .int .i64 hi] w fun e w' => e = .returned (.bool true) ∧ Below w.heap.size w w' := by
  have hs' := hs
  obtain ⟨ao, cap, rfl, hl, hm, hcell⟩ := hs
  clear hcell
  by_cases hbig : 1024 < L.length
  · go_enter Ybim.func11, Ybim.ntmps11
    go_wp2
    go_ret
    exact ⟨rfl, Below.refl _ _⟩
  · have hlen := fromS_length L
    have hlen2 := add_length (fromS L) lo hi
    have hlen3 := remove_length (fromS L) lo hi
    have f1 : eqL (remove (add (fromS L) lo hi) lo hi) (remove (fromS L) lo hi) = true := by rw [rem_add (fromS_canon L)]; simp [eqL]
    have f2 : eqL (add (remove (fromS L) lo hi) lo hi) (add (fromS L) lo hi) = true := by rw [add_rem (fromS_canon L)]; simp [eqL]
    have hfield := run_spans
    go_enter Ybim.func11, Ybim.ntmps11
    go_wp2_with fail
    refine (from_any _ L _ hs' (by omega)).mono ?_
    rintro e w1 ⟨v1, rfl, hsl1, _, hb1⟩
    obtain ⟨a1, n1, c1, hv1⟩ := hsl1.shape
    subst hv1
    go_wp2_with fail
    refine (add_any _ (fromS L) lo hi _ (hsl1.alloc _) (by omega)).mono ?_
    rintro e w2 ⟨v2, rfl, hsl2, _, hb2⟩
    obtain ⟨a2, n2, c2, hv2⟩ := hsl2.shape
    subst hv2
    have hx2 : w2.cell? ⟨w1.heap.size, 0, none⟩ = some (.slice a1 n1 c1) := (hb2.cell (p := ⟨w1.heap.size, 0, none⟩) (by simp)).trans (by simp [go_sem])
    have hslS := (hsl1.alloc (.cells #[.slice a1 n1 c1] 24)).below hb2
    have hb2' := hb1.trans ((Below.ofAlloc hb2).mono hb1.size)
    have hz2 := hb2.size
    simp only [World.size_alloc] at hz2
    have hz2' : w1.heap.size < w2.heap.size := by omega
    clear hb2
    go_wp2_with fail
    refine (rem_any _ (fromS L) lo hi _ (hslS.alloc _) (by omega)).mono ?_
    rintro e w3 ⟨v3, rfl, hsl3, _, hb3⟩
    obtain ⟨a3, n3, c3, hv3⟩ := hsl3.shape
    subst hv3
    have hx3 : w3.cell? ⟨w2.heap.size, 0, none⟩ = some (.slice a2 n2 c2) := (hb3.cell (p := ⟨w2.heap.size, 0, none⟩) (by simp)).trans (by simp [go_sem])
    have hslA := (hsl2.alloc (.cells #[.slice a2 n2 c2] 24)).below hb3
    have hb3' := hb2'.trans ((Below.ofAlloc hb3).mono hb2'.size)
    have hz3 := hb3.size
    simp only [World.size_alloc] at hz3
    have hz3' : w2.heap.size < w3.heap.size := by omega
    clear hb3 hslS hx2
    go_wp2_with fail
    have hxA : (w3.alloc (.cells #[.slice a3 n3 c3] 24)).cell? ⟨w2.heap.size, 0, none⟩ = some (.slice a2 n2 c2) := by rw [World.cell?_alloc_lt]; exact hx3; simpa using hz3'
    have hxR : (w3.alloc (.cells #[.slice a3 n3 c3] 24)).cell? ⟨w3.heap.size, 0, none⟩ = some (.slice a3 n3 c3) := by simp [go_sem]
    have hA := hslA.alloc (.cells #[.slice a3 n3 c3] 24)
    have hR := hsl3.alloc (.cells #[.slice a3 n3 c3] 24)
    have hbW := hb3'.alloc hb3'.size (.cells #[.slice a3 n3 c3] 24)
    have hzW : (w3.alloc (.cells #[.slice a3 n3 c3] 24)).heap.size = w3.heap.size + 1 := by simp
    generalize w3.alloc (.cells #[.slice a3 n3 c3] 24) = W at *
    have hzA : w2.heap.size < W.heap.size := by omega
    have hzR : w3.heap.size < W.heap.size := by omega
    clear hzW hx3 hsl3 hslA hb3' hsl1 hsl2 hb1 hb2'
    go_region_with (first | (go_at_call 23; refine (rem_any _ (add (fromS L) lo hi) lo hi _ (by exact hA) (by omega)).mono ?_; rintro e w4 ⟨v4, rfl, hsl4, _, hb4⟩; obtain ⟨a4, n4, c4, hv4⟩ := hsl4.shape; subst hv4; have hb4' := Below.undrew hb4; have hx4 := (hb4'.cell (p := ⟨w3.heap.size, 0, none⟩) hzR).trans hxR; have hx4' := (hb4'.cell (p := ⟨w2.heap.size, 0, none⟩) hzA).trans hxA) | (go_at_call 26; refine (eq_geq _ _ (remove (add (fromS L) lo hi) lo hi) (remove (fromS L) lo hi) _ (by exact hsl4) (by exact hR.below hb4')).mono ?_; rintro e w5 ⟨rfl, hb5⟩; rw [f1]; have hz4 := hb4'.size; have hx5 := (hb5.cell (p := ⟨w3.heap.size, 0, none⟩) (by simp; omega)).trans hx4; have hx5' := (hb5.cell (p := ⟨w2.heap.size, 0, none⟩) (by simp; omega)).trans hx4'; have hA5 := (hA.below hb4').below hb5; have hR5 := (hR.below hb4').below hb5; have hz5 := hb5.size; have hzA5 : w2.heap.size < w5.heap.size := (by omega); have hzR5 : w3.heap.size < w5.heap.size := (by omega); have hbW5 := (hbW.trans (hb4'.mono hbW.size)).trans (hb5.mono (Nat.le_trans hbW.size hz4)); clear hx4 hx4' hb4 hb4' hb5 hsl4 hz4))
    all_goals
      clear hA hR hxA hxR hzA hzR hbW
      go_wp2
      go_region_with (first | (go_at_call 27; refine (add_any _ (remove (fromS L) lo hi) lo hi _ (by exact hR5) (by omega)).mono ?_; rintro e w6 ⟨v6, rfl, hsl6, _, hb6⟩; obtain ⟨a6, n6, c6, hv6⟩ := hsl6.shape; subst hv6; have hb6' := Below.undrew hb6; have hx6 := (hb6'.cell (p := ⟨w2.heap.size, 0, none⟩) hzA5).trans hx5') | (go_at_call 26; refine (eq_geq _ _ (add (remove (fromS L) lo hi) lo hi) (add (fromS L) lo hi) _ (by exact hsl6) (by exact hA5.below hb6')).mono ?_; rintro e w7 ⟨rfl, hb7⟩; rw [f2]))
      all_goals
        have hbF := (hbW5.trans (hb6'.mono hbW5.size)).trans (hb7.mono (Nat.le_trans hbW5.size hb6'.size))
        go_wp2
        go_ret
        exact ⟨rfl, hbF⟩

end Go.Proofs.Ymbrbi
