import Derived.Test.YmbrbhWSearch
namespace Go.Proofs.Ymbrbh
open Go.RowKit

set_option maxHeartbeats 1000000 in
theorem walk_DCut (v : Value) (L : List (Int × Int)) (x : Int) (w : World) (hs : Sl .i64 w v L) (_ : RL .i64 L) (_ : (Lit.int .i64 x).wf = true) :
    Calls Ybhm.prog 14 #[v, .int .i64 x] w fun e w' => e = .returned (.bool true) ∧ Below w.heap.size w w' := by
  have hs' := hs
  obtain ⟨ao, cap, rfl, hl, hm, hcell⟩ := hs
  by_cases hbig : 4096 < L.length
  · clear hcell
    go_enter Ybhm.func14, Ybhm.ntmps14
    go_wp2
    go_ret
    exact ⟨rfl, Below.refl _ _⟩
  · go_enter Ybhm.func14, Ybhm.ntmps14
    go_wp2_with fail
    refine (search_any _ L x _ (hs'.alloc _)).mono ?_
    rintro e w1 ⟨i, rfl, hcut, hb1⟩
    have hbel := Below.ofAlloc hb1
    obtain ⟨hi0, hi1, hi2⟩ := hcut.out
    by_cases hi : i < L.length
    · obtain ⟨b, off, rfl, hb, hc⟩ := hcell (by omega)
      have h1 := hi1 hi
      have hc1 := (hc i hi).2
      rw [← hbel.cell (p := ⟨b, off + i * 2 + 1, none⟩) hb] at hc1
      by_cases h0 : i = 0
      · subst h0
        simp only [Nat.zero_mul, Nat.add_zero] at hc1
        clear hc hcell hi1 hi2 hcut hb1
        go_wp2
        go_ret
        exact ⟨rfl, hbel⟩
      · obtain ⟨i', rfl⟩ : ∃ i', i = i' + 1 := ⟨i - 1, by omega⟩
        have h2 := hi2 (by omega)
        simp only [Nat.add_sub_cancel] at h2
        have hcp := (hc i' (by omega)).2
        rw [← hbel.cell (p := ⟨b, off + i' * 2 + 1, none⟩) hb] at hcp
        clear hc hcell hi1 hi2 hcut hb1
        go_wp2
        go_ret
        exact ⟨rfl, hbel⟩
    · by_cases h0 : i = 0
      · subst h0
        clear hcell hi1 hi2 hcut hb1
        go_wp2
        go_ret
        exact ⟨rfl, hbel⟩
      · obtain ⟨i', rfl⟩ : ∃ i', i = i' + 1 := ⟨i - 1, by omega⟩
        obtain ⟨b, off, rfl, hb, hc⟩ := hcell (by omega)
        have h2 := hi2 (by omega)
        simp only [Nat.add_sub_cancel] at h2
        have hcp := (hc i' (by omega)).2
        rw [← hbel.cell (p := ⟨b, off + i' * 2 + 1, none⟩) hb] at hcp
        clear hc hcell hi1 hi2 hcut hb1
        go_wp2
        go_ret
        exact ⟨rfl, hbel⟩
end Go.Proofs.Ymbrbh
