import Derived.Test.YmbrbiWFrom
import Derived.Test.YmbrbiWCnt
import Derived.Test.YmbrbiWHas
import Derived.Test.YmbrbiThyCnt2
import Derived.Deep.RegionWith
namespace Go.Proofs.Ymbrbi
open Go.RowKit

set_option maxHeartbeats 4000000 in
theorem walk_FStep (v : Value) (L : List (Int × Int)) (x : Int) (w : World) (hs : Sl .i64 w v L) (hr : RL .i64 L) (w1 : (Lit.int .i64 x).wf = true) :
    Calls Ybim.prog 7 #[v, .int .i64 x] w fun e w' => e = .returned (.bool true) ∧ Below w.heap.size w w' := by
  obtain ⟨x0, x1⟩ := bounds_i64 w1
  clear w1
  have hs' := hs
  obtain ⟨ao, cap, rfl, hl, hm, hcell⟩ := hs
  clear hcell
  by_cases hbig : 1024 < L.length
  · go_enter Ybim.func7, Ybim.ntmps7
    go_wp2
    go_ret
    exact ⟨rfl, Below.refl _ _⟩
  · have hrS := fromS_RL hr
    have hcS := fromS_canon L
    have hcan := hrS.can hcS
    obtain ⟨q0, q1⟩ := hrS.cnt_le hcS
    obtain ⟨S, hSe⟩ : ∃ S, fromS L = S := ⟨_, rfl⟩
    have hfr := hide (from_any (.slice ao L.length cap) L w hs' (by omega))
    have hh := hide (fromS_has L)
    rw [hSe] at hrS hcS hcan q0 q1 hfr hh
    have r0 : Hid (u64 (rank S (-9223372036854775808)) = 0) := by show _ = _; rw [rank_low hcan (by omega)]; rfl
    obtain ⟨n, hn⟩ : ∃ n, cnt S = n := ⟨_, rfl⟩
    have c0 : Hid (u64 (cnt S) = n) := (hrS.cnt_u64 hcS).trans hn
    have c1 : Hid (u64 (rank S 9223372036854775807) = n) := (hrS.rank_u64 hcS _).trans ((rank_top (fun p hp => (hrS.i64 p hp).2.2)).trans hn)
    obtain ⟨m, hm'⟩ : ∃ m, rank S x = m := ⟨_, rfl⟩
    have c2 : Hid (u64 (rank S x) = m) := (hrS.rank_u64 hcS _).trans hm'
    have c3 : Hid (u64 (rank S (x + 1)) = m + if has L x = true then 1 else 0) := by
      show _ = _
      rw [hrS.rank_u64 hcS, rank_succ hcan, hm', hh.out]
    have m0 : 0 ≤ m := by rw [← hm']; exact rank_nonneg _ _
    have m1 : (m + if has L x = true then 1 else 0) ≤ n := by
      have h := hh.out x
      rw [← hm', ← hn, ← h, ← rank_succ hcan]; exact rank_le _ _
    rw [hn] at q0 q1
    clear hSe hn hm' hh hcan hcS
    go_enter Ybim.func7, Ybim.ntmps7
    go_wp2_with fail
    refine hfr.out.mono ?_
    rintro e w1 ⟨v1, rfl, hsl1, _, hb1⟩
    obtain ⟨a1, n1, c1', hv1⟩ := hsl1.shape
    subst hv1
    have hL1 := hs'.below hb1
    clear hfr
    go_wp2_with fail
    refine (rank_any _ S (-9223372036854775808) _ (hsl1.alloc _) hrS (by omega)).mono ?_
    rintro e w2 ⟨rfl, hb2⟩
    rw [r0.out]
    have hx2 : w2.cell? ⟨w1.heap.size, 0, none⟩ = some (.slice a1 n1 c1') := (hb2.cell (p := ⟨w1.heap.size, 0, none⟩) (by simp)).trans (by simp [go_sem])
    have hb2' := Below.ofAlloc hb2
    have hz2 : w1.heap.size < w2.heap.size := by have := hb2.size; simp at this; omega
    have hS2 := hsl1.below hb2'
    have hL2 := hL1.below hb2'
    have hB2 := hb1.trans (hb2'.mono hb1.size)
    clear hb2 hsl1 hL1 hb2' hb1 r0
    go_wp2_with fail
    go_region_with (first | (go_at_call 20; refine (rank_any _ S 9223372036854775807 _ (by exact hS2) hrS (by omega)).mono ?_; rintro e w3 ⟨rfl, hb3⟩; rw [c1.out]; have hb3' := Below.undrew hb3; have hx3 := (hb3'.cell (p := ⟨w1.heap.size, 0, none⟩) hz2).trans hx2; have hS3 := hS2.below hb3'; have hL3 := hL2.below hb3') | (go_at_call 21; refine (count_any _ S _ (by exact hS3) hrS).mono ?_; rintro e w4 ⟨rfl, hb4⟩; rw [c0.out]))
    all_goals
      have hx4 := (hb4.cell (p := ⟨w1.heap.size, 0, none⟩) (Nat.lt_of_lt_of_le hz2 hb3'.size)).trans hx3
      have hS4 := hS3.below hb4
      have hL4 := hL3.below hb4
      have hz4 := Nat.lt_of_lt_of_le (Nat.lt_of_lt_of_le hz2 hb3'.size) hb4.size
      have hB4 := (hB2.trans (hb3'.mono hB2.size)).trans (hb4.mono (Nat.le_trans hB2.size hb3'.size))
      clear hx3 hS3 hL3 hx2 hS2 hL2 hb3 hb3' hb4 hB2 c0 c1
      by_cases hmx : x = 9223372036854775807
      · subst hmx
        go_wp2
        go_ret
        exact ⟨rfl, hB4⟩
      · go_wp2_with fail
        refine (rank_any _ S x _ hS4 hrS (by omega)).mono ?_
        rintro e w5 ⟨rfl, hb5⟩
        rw [c2.out]
        have hx5 := (hb5.cell (p := ⟨w1.heap.size, 0, none⟩) hz4).trans hx4
        have hS5 := hS4.below hb5
        have hL5 := hL4.below hb5
        have hz5 := Nat.lt_of_lt_of_le hz4 hb5.size
        have hB5 := hB4.trans (hb5.mono hB4.size)
        clear hx4 hS4 hL4 hb5 hB4 c2
        go_wp2_with fail
        refine (has_fin _ L x _ hL5).mono ?_
        rintro e w6 ⟨rfl, rfl⟩
        cases hx : has L x
        · rw [hx] at c3 m1
          simp only [Bool.false_eq_true, if_false, Int.add_zero] at c3 m1
          go_wp2_with fail
          refine (rank_any _ S (x + 1) _ hS5 hrS (by omega)).mono ?_
          rintro e w7 ⟨rfl, hb7⟩
          rw [c3.out]
          go_wp2_with fail
          go_ret
          exact ⟨ret_bool (by simp), hB5.trans (hb7.mono hB5.size)⟩
        · rw [hx] at c3 m1
          simp only [if_true] at c3 m1
          go_wp2_with fail
          refine (rank_any _ S (x + 1) _ hS5 hrS (by omega)).mono ?_
          rintro e w7 ⟨rfl, hb7⟩
          rw [c3.out]
          go_wp2_with fail
          go_ret
          exact ⟨ret_bool (by simp), hB5.trans (hb7.mono hB5.size)⟩

end Go.Proofs.Ymbrbi
