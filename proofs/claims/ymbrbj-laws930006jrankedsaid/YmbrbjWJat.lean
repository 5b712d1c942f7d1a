import Derived.Test.YmbrbjWCnt
import Derived.Test.YmbrbjWHas
import Derived.Test.YmbrbjThyCnt
namespace Go.Proofs.Ymbrbj
open Go.RowKit

set_option maxHeartbeats 1000000 in
theorem jat_any (vs vl : Value) (S L : List (Int × Int)) (k : Int) (w : World) (hs : Sl .i64 w vs S) (hl : Sl .i64 w vl L) (hr : RL .i64 S) (hc : canon S = true) (hh : ∀ x, has S x = has L x) (k0 : 0 ≤ k) (k1 : k ≤ 18446744073709551615) :
    Calls Ybjm.prog 21 #[.agg #[vs], vl, .int .u64 k] w fun e w' => e = .returned (.bool true) ∧ Below w.heap.size w w' := by
  have hcnt := hr.cnt_u64 hc
  have hcr := hr.cnt_le hc
  have hs' := hs
  have hl' := hl
  obtain ⟨ao, cap, rfl, _, _, hcell⟩ := hs
  obtain ⟨al, cl, rfl, _, _, hcell2⟩ := hl
  clear hcell hcell2
  rcases Int.lt_or_le k (cnt S) with hk | hk
  · obtain ⟨v, e1, e2, e3⟩ := sel_some (hr.can hc) k0 hk
    have e4 : has L v = true := by rw [← hh v]; exact e2
    have e5 : u64 (rank S v) = k := by rw [hr.rank_u64 hc, e3]
    have hv2 : v ≤ 9223372036854775807 := by have := RL.has_i64 hr.i64 e2; omega
    go_enter Ybjm.func21, Ybjm.ntmps21
    go_wp2_with fail
    refine (select_any _ S k _ (hs'.alloc _) hr k0 k1).mono ?_
    rintro e w1 ⟨rfl, hb1⟩
    rw [e1]
    have hx1 : w1.cell? ⟨w.heap.size, 0, none⟩ = some (.slice ao S.length cap) := (hb1.cell (p := ⟨w.heap.size, 0, none⟩) (by simp)).trans (by simp [go_sem])
    have hb1' := Below.ofAlloc hb1
    have hz1 : w.heap.size < w1.heap.size := by have := hb1.size; simp at this; omega
    have hS1 := hs'.below hb1'
    have hL1 := hl'.below hb1'
    go_wp2_with fail
    refine (count_any _ S _ hS1 hr).mono ?_
    rintro e w2 ⟨rfl, hb2⟩
    rw [hcnt]
    have hx2 := (hb2.cell (p := ⟨w.heap.size, 0, none⟩) hz1).trans hx1
    have hb2' := hb1'.trans (hb2.mono hb1'.size)
    have hS2 := hS1.below hb2
    have hL2 := hL1.below hb2
    go_wp2_with fail
    refine (has_jin _ L v _ hL2).mono ?_
    rintro e w3 ⟨rfl, rfl⟩
    rw [e4]
    go_wp2_with fail
    refine (rank_any _ S v _ hS2 hr hv2).mono ?_
    rintro e w4 ⟨rfl, hb4⟩
    rw [e5]
    go_wp2_with fail
    go_ret
    exact ⟨ret_bool (by simp), hb2'.trans (hb4.mono hb2'.size)⟩
  · have e1 := sel_none hk
    go_enter Ybjm.func21, Ybjm.ntmps21
    go_wp2_with fail
    refine (select_any _ S k _ (hs'.alloc _) hr k0 k1).mono ?_
    rintro e w1 ⟨rfl, hb1⟩
    rw [e1]
    have hx1 : w1.cell? ⟨w.heap.size, 0, none⟩ = some (.slice ao S.length cap) := (hb1.cell (p := ⟨w.heap.size, 0, none⟩) (by simp)).trans (by simp [go_sem])
    have hb1' := Below.ofAlloc hb1
    have hS1 := hs'.below hb1'
    go_wp2_with fail
    refine (count_any _ S _ hS1 hr).mono ?_
    rintro e w2 ⟨rfl, hb2⟩
    rw [hcnt]
    go_wp2_with fail
    go_ret
    exact ⟨ret_bool (by simp), hb1'.trans (hb2.mono hb1'.size)⟩

end Go.Proofs.Ymbrbj
