import Derived.Test.YmbrbiWFrom
import Derived.Test.YmbrbiWCnt
import Derived.Test.YmbrbiThyCnt2
import Derived.Deep.RegionWith
namespace Go.Proofs.Ymbrbi
open Go.RowKit

set_option maxHeartbeats 4000000 in
theorem walk_FSelect (v : Value) (L : List (Int × Int)) (k x : Int) (w : World) (hs : Sl .i64 w v L) (hr : RL .i64 L) (w1 : (Lit.int .u64 k).wf = true) (w2 : (Lit.int .i64 x).wf = true) :
    Calls Ybim.prog 8 #[v, .int .u64 k, .int .i64 x] w fun e w' => e = .returned (.bool true) ∧ Below w.heap.size w w' := by
  obtain ⟨k0, k1⟩ := bounds_u64 w1
  obtain ⟨x0, x1⟩ := bounds_i64 w2
  clear w1 w2
  have hs' := hs
  obtain ⟨ao, cap, rfl, hl, hm, hcell⟩ := hs
  clear hcell
  by_cases hbig : 1024 < L.length
  · go_enter Ybim.func8, Ybim.ntmps8
    go_wp2
    go_ret
    exact ⟨rfl, Below.refl _ _⟩
  · have hrS := fromS_RL hr
    have hcS := fromS_canon L
    have hcan := hrS.can hcS
    obtain ⟨q0, q1⟩ := hrS.cnt_le hcS
    obtain ⟨S, hSe⟩ : ∃ S, fromS L = S := ⟨_, rfl⟩
    have hfr := hide (from_any (.slice ao L.length cap) L w hs' (by omega))
    rw [hSe] at hrS hcS hcan q0 q1 hfr
    obtain ⟨n, hn⟩ : ∃ n, cnt S = n := ⟨_, rfl⟩
    have c0 : Hid (u64 (cnt S) = n) := (hrS.cnt_u64 hcS).trans hn
    rw [hn] at q0 q1
    rcases Int.lt_or_le 0 n with hp | hp
    · have m0 : 0 ≤ k % n := Int.emod_nonneg _ (by omega)
      have m1 := Int.emod_lt_of_pos k hp
      obtain ⟨m, hm⟩ : ∃ m, k % n = m := ⟨_, rfl⟩
      rw [hm] at m0 m1
      obtain ⟨y, hy1, hy2, hy3⟩ := sel_some hcan m0 (by omega)
      have c1 : Hid (u64 (rank S y) = m) := (hrS.rank_u64 hcS y).trans hy3
      have hyr := RL.has_i64 hrS.i64 hy2
      replace hy1 := hide hy1
      clear hSe hn hcan hcS hy2 hy3
      go_enter Ybim.func8, Ybim.ntmps8
      go_wp2_with fail
      refine hfr.out.mono ?_
      rintro e w1 ⟨v1, rfl, hsl1, _, hb1⟩
      obtain ⟨a1, n1, c1', hv1⟩ := hsl1.shape
      subst hv1
      clear hfr
      go_wp2_with fail
      refine (count_any _ S _ (hsl1.alloc _) hrS).mono ?_
      rintro e w2 ⟨rfl, hb2⟩
      rw [c0.out]
      have hx2 : w2.cell? ⟨w1.heap.size, 0, none⟩ = some (.slice a1 n1 c1') := (hb2.cell (p := ⟨w1.heap.size, 0, none⟩) (by simp)).trans (by simp [go_sem])
      have hb2' := Below.ofAlloc hb2
      have hz2 : w1.heap.size < w2.heap.size := by have := hb2.size; simp at this; omega
      have hS2 := hsl1.below hb2'
      have hB2 := hb1.trans (hb2'.mono hb1.size)
      clear hb2 hsl1 hb2' hb1
      go_wp2_with fail
      refine (select_any _ S m _ hS2 hrS m0 (by omega)).mono ?_
      rintro e w3 ⟨rfl, hb3⟩
      rw [hy1.out]
      have hx3 := (hb3.cell (p := ⟨w1.heap.size, 0, none⟩) hz2).trans hx2
      have hS3 := hS2.below hb3
      have hB3 := hB2.trans (hb3.mono hB2.size)
      go_wp2_with fail
      refine (rank_any _ S y _ hS3 hrS (by omega)).mono ?_
      rintro e w4 ⟨rfl, hb4⟩
      rw [c1.out]
      go_wp2_with fail
      go_ret
      exact ⟨ret_bool (by simp), hB3.trans (hb4.mono hB3.size)⟩
    · obtain rfl : n = 0 := by omega
      have c1 : Hid (u64 (rank S x) = 0) := by
        show _ = _
        have h1 := rank_le x S
        have h2 := rank_nonneg x S
        rw [hrS.rank_u64 hcS]; omega
      clear hSe hn hcan hcS
      go_enter Ybim.func8, Ybim.ntmps8
      go_wp2_with fail
      refine hfr.out.mono ?_
      rintro e w1 ⟨v1, rfl, hsl1, _, hb1⟩
      obtain ⟨a1, n1, c1', hv1⟩ := hsl1.shape
      subst hv1
      clear hfr
      go_wp2_with fail
      refine (count_any _ S _ (hsl1.alloc _) hrS).mono ?_
      rintro e w2 ⟨rfl, hb2⟩
      rw [c0.out]
      have hx2 : w2.cell? ⟨w1.heap.size, 0, none⟩ = some (.slice a1 n1 c1') := (hb2.cell (p := ⟨w1.heap.size, 0, none⟩) (by simp)).trans (by simp [go_sem])
      have hb2' := Below.ofAlloc hb2
      have hS2 := hsl1.below hb2'
      have hB2 := hb1.trans (hb2'.mono hb1.size)
      clear hb2 hsl1 hb2' hb1
      go_wp2_with fail
      refine (rank_any _ S x _ hS2 hrS x1).mono ?_
      rintro e w3 ⟨rfl, hb3⟩
      rw [c1.out]
      go_wp2_with fail
      go_ret
      exact ⟨ret_bool (by simp), hB2.trans (hb3.mono hB2.size)⟩

end Go.Proofs.Ymbrbi
