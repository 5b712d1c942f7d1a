import Derived.Test.YmbrbjWFrom
import Derived.Test.YmbrbjWJat
import Derived.Deep.RegionWith
namespace Go.Proofs.Ymbrbj
open Go.RowKit

set_option maxHeartbeats 4000000 in
theorem walk_JRanked (v : Value) (L : List (Int × Int)) (k : Int) (w : World) (hs : Sl .i64 w v L) (hr : RL .i64 L) (w1 : (Lit.int .u64 k).wf = true) :
    Calls Ybjm.prog 7 #[v, .int .u64 k] w fun e w' => e = .returned (.bool true) ∧ Below w.heap.size w w' := by
  obtain ⟨k0, k1⟩ := bounds_u64 w1
  clear w1
  have hs' := hs
  obtain ⟨ao, cap, rfl, hl, hm, hcell⟩ := hs
  clear hcell
  by_cases hbig : 1024 < L.length
  · go_enter Ybjm.func7, Ybjm.ntmps7
    go_wp2
    go_ret
    exact ⟨rfl, Below.refl _ _⟩
  · have hrS := fromS_RL hr
    have hcS := fromS_canon L
    have hhS := hide (fromS_has L)
    have hcnt := hrS.cnt_u64 hcS
    obtain ⟨q0, q1⟩ := hrS.cnt_le hcS
    go_enter Ybjm.func7, Ybjm.ntmps7
    go_wp2_with fail
    refine (from_any _ L _ hs' (by omega)).mono ?_
    rintro e w1 ⟨v1, rfl, hsl1, _, hb1⟩
    generalize fromS L = S at *
    obtain ⟨n, hn⟩ : ∃ n, cnt S = n := ⟨_, rfl⟩
    replace hcnt := hide (hcnt.trans hn)
    rw [hn] at q0 q1
    clear hn
    obtain ⟨a1, n1, c1, hv1⟩ := hsl1.shape
    subst hv1
    have hL1 := hs'.below hb1
    go_wp2_with fail
    refine (jat_any _ _ S L k _ (hsl1.alloc _) (hL1.alloc _) hrS hcS hhS.out k0 k1).mono ?_
    rintro e w2 ⟨rfl, hb2⟩
    have hx2 : w2.cell? ⟨w1.heap.size, 0, none⟩ = some (.slice a1 n1 c1) := (hb2.cell (p := ⟨w1.heap.size, 0, none⟩) (by simp)).trans (by simp [go_sem])
    have hb2' := Below.ofAlloc hb2
    have hz2 : w1.heap.size < w2.heap.size := by have := hb2.size; simp at this; omega
    have hS2 := hsl1.below hb2'
    have hL2 := hL1.below hb2'
    have hB2 := hb1.trans (hb2'.mono hb1.size)
    clear hb2 hsl1 hL1 hb2' hb1
    go_wp2_with fail
    refine (count_any _ S _ hS2 hrS).mono ?_
    rintro e w3 ⟨rfl, hb3⟩
    rw [hcnt.out]
    have hx3 := (hb3.cell (p := ⟨w1.heap.size, 0, none⟩) hz2).trans hx2
    have hS3 := hS2.below hb3
    have hL3 := hL2.below hb3
    have hB3 := hB2.trans (hb3.mono hB2.size)
    have hz3 : w1.heap.size < w3.heap.size := Nat.lt_of_lt_of_le hz2 hb3.size
    clear hb3 hx2 hS2 hL2 hB2 hz2
    go_wp2_with fail
    refine (jat_any _ _ S L n _ hS3 hL3 hrS hcS hhS.out q0 q1).mono ?_
    rintro e w4 ⟨rfl, hb4⟩
    have hx4 := (hb4.cell (p := ⟨w1.heap.size, 0, none⟩) hz3).trans hx3
    have hS4 := hS3.below hb4
    have hL4 := hL3.below hb4
    have hB4 := hB3.trans (hb4.mono hB3.size)
    have hz4 : w1.heap.size < w4.heap.size := Nat.lt_of_lt_of_le hz3 hb4.size
    clear hb4 hx3 hS3 hL3 hB3 hz3
    rcases Int.lt_or_le 0 n with h0 | h0
    · have m0 : 0 ≤ k % n := Int.emod_nonneg _ (by omega)
      have m1 : k % n ≤ 18446744073709551615 := by have := Int.emod_lt_of_pos k h0; omega
      obtain ⟨m, hm⟩ : ∃ m, k % n = m := ⟨_, rfl⟩
      rw [hm] at m0 m1
      have hw1 : IntKind.u64.wrap (n - 1) = n - 1 := by rw [IntKind.wrap_u64]; omega
      obtain ⟨n', hn'⟩ : ∃ n', n - 1 = n' := ⟨_, rfl⟩
      rw [hn'] at hw1
      have p0 : 0 ≤ n' := by omega
      have p1 : n' ≤ 18446744073709551615 := by omega
      have tok1 : True := trivial
      go_wp2_with fail
      go_region_with (first | (go_at_call 21; have _t := tok1; refine (jat_any _ _ S L m _ (by exact hS4) (by exact hL4) hrS hcS hhS.out m0 m1).mono ?_; rintro e w5 ⟨rfl, hb5⟩; clear tok1; have hb5' := Below.undrew hb5; have hx5 := (hb5'.cell (p := ⟨w1.heap.size, 0, none⟩) hz4).trans hx4; have hS5 := hS4.below hb5'; have hL5 := hL4.below hb5') | (go_at_call 21; refine (jat_any _ _ S L n' _ (by exact hS5) (by exact hL5) hrS hcS hhS.out p0 p1).mono ?_; rintro e w6 ⟨rfl, hb6⟩))
      all_goals
        have hB6 := (hB4.trans (hb5'.mono hB4.size)).trans (hb6.mono (Nat.le_trans hB4.size hb5'.size))
        go_wp2
        go_ret
        exact ⟨rfl, hB6⟩
    · go_wp2_with fail
      go_ret
      exact ⟨rfl, hB4⟩

end Go.Proofs.Ymbrbj
