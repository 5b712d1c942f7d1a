import Derived.Test.YmbrbjWJKth
namespace Go.Proofs.Ymbrbj
open Go.RowKit

theorem jc_round {B : Nat} {w wr w2 : World} {va a2 : Option Addr} {vn vc n2 c2 : Nat} {T : List (Int × Int)} (hz : B + 1 ≤ wr.heap.size) (hb2 : Below wr.heap.size wr w2)
    (hcs : wr.cell? ⟨B, 0, none⟩ = some (.slice va vn vc)) (hfs : wr.frozen? ⟨B, 0, none⟩ = false)
    (hfr : Fr (B + 1) (.slice va vn vc)) (hsl2 : Sl .i64 w2 (.slice a2 n2 c2) T) (hnew : New wr.heap.size (.slice va vn vc) (.slice a2 n2 c2)) (hbel : Below B w wr) :
    (w2.setCell ⟨B, 0, none⟩ (.slice a2 n2 c2)).cell? ⟨B, 0, none⟩ = some (.slice a2 n2 c2) ∧ Sl .i64 (w2.setCell ⟨B, 0, none⟩ (.slice a2 n2 c2)) (.slice a2 n2 c2) T ∧ Fr (B + 1) (.slice a2 n2 c2) ∧
      (w2.setCell ⟨B, 0, none⟩ (.slice a2 n2 c2)).frozen? ⟨B, 0, none⟩ = false ∧ B + 1 ≤ (w2.setCell ⟨B, 0, none⟩ (.slice a2 n2 c2)).heap.size ∧ Below B w (w2.setCell ⟨B, 0, none⟩ (.slice a2 n2 c2)) := by
  have hc2 := (hb2.cell (p := ⟨B, 0, none⟩) (by simp; omega)).trans hcs
  have hf2 := (hb2.frozen (p := ⟨B, 0, none⟩) (by simp; omega)).trans hfs
  have hs2 := hb2.size
  have hF := hnew.fr hfr hz
  refine ⟨by simp [go_sem, hc2], hsl2.setCell hF (by simp) _, hF, by simp [go_sem, hf2], by simp [World.setCell]; omega, ?_⟩
  exact (hbel.trans (hb2.mono (by omega))).setCell (by simp) _

set_option maxHeartbeats 4000000 in
theorem walk_JCells (v : Value) (L : List Bool) (base k : Int) (w : World) (hs : Sl1 w v (L.map Value.bool)) (w1 : (Lit.int .i64 base).wf = true) (w2 : (Lit.int .u64 k).wf = true) :
    Calls Ybjm.prog 6 #[v, .int .i64 base, .int .u64 k] w fun e w' => e = .returned (.bool true) ∧ Below w.heap.size w w' := by
  obtain ⟨x0, x1⟩ := bounds_i64 w1
  obtain ⟨k0, k1⟩ := bounds_u64 w2
  clear w1 w2
  have hs' := hs
  obtain ⟨ao, cap, rfl, hl, hm, hcell⟩ := hs
  simp only [List.length_map] at hl hcell hs' ⊢
  by_cases hbig : 1024 < L.length
  · clear hcell
    go_enter Ybjm.func6, Ybjm.ntmps6
    go_wp2
    go_ret
    exact ⟨rfl, Below.refl _ _⟩
  rcases Int.lt_or_le 9223372036854773759 base with hbb | hbb
  · obtain ⟨b, hbe⟩ : ∃ b, base - 2048 = b := ⟨_, rfl⟩
    have b0 : -9223372036854775808 ≤ b := by omega
    have b1 : b ≤ 9223372036854773759 := by omega
    go_enter Ybjm.func6, Ybjm.ntmps6
    go_wp2_with fail
    clear hbe hbb x0 x1
    go_loopw [8, 9] (fun t i wr => ∃ (m : Nat) (T : Int) (S : List (Int × Int)) (va : Option Addr) (vn vc : Nat), m ≤ L.length ∧ i = .int .i64 m ∧ t = .int .u64 T ∧ 0 ≤ T ∧ T ≤ m ∧ S.length ≤ m ∧ wr.cell? ⟨w.heap.size, 0, none⟩ = some (.slice va vn vc) ∧ Sl .i64 wr (.slice va vn vc) S ∧ Fr (w.heap.size + 1) (.slice va vn vc) ∧
        wr.frozen? ⟨w.heap.size, 0, none⟩ = false ∧ w.heap.size + 1 ≤ wr.heap.size ∧ CellInv L b m S ∧ Below w.heap.size w wr)
      (fun _ i _ => L.length - (intOf i).toNat)
    case atStart => exact ⟨0, 0, [], none, 0, 0, Nat.zero_le _, rfl, rfl, by omega, by omega, Nat.le_refl _, by simp [go_sem], Sl.nil _ _, Fr.nil _, by simp [go_sem], by simp, cell_start, (Below.refl _ _).alloc (Nat.le_refl _) _⟩
    case round =>
      obtain ⟨m, T, S, va, vn, vc, hm', rfl, rfl, hT0, hT1, hSm, hcs, hsl, hfr, hfs, hz, hci, hbel⟩ := hrel
      by_cases hlt : m < L.length
      · obtain ⟨bb, off, rfl, hb, hc⟩ := hcell (by omega)
        have hq := slb_cell hb hc hbel hlt
        clear hc hcell
        cases hcb : boA L m
        · have hst := cell_skip hci hcb
          rw [hcb] at hq
          clear hci hcb hs'
          go_wp2
          go_roundw
          case rel => exact ⟨m + 1, T, S, va, vn, vc, by omega, by go_num, rfl, hT0, by omega, by omega, hcs, hsl, hfr, hfs, hz, hst, hbel⟩
          case measure => simp [intOf]; omega
        · have hst := cell_add hci hcb
          have hln := add_length S (b + m) (b + m + 1)
          rw [hcb] at hq
          clear hci hcb hs'
          go_wp2_with fail
          refine (add_any _ S (b + m) (b + m + 1) _ hsl (by omega)).mono ?_
          rintro e w2 ⟨v2, rfl, hsl2, hnew2, hb2⟩
          obtain ⟨a2, n2, c2, hv2⟩ := hsl2.shape
          subst hv2
          have hc2 := (hb2.cell (p := ⟨w.heap.size, 0, none⟩) (by simp; omega)).trans hcs
          have hf2 := (hb2.frozen (p := ⟨w.heap.size, 0, none⟩) (by simp; omega)).trans hfs
          have R := jc_round hz hb2 hcs hfs hfr hsl2 hnew2 hbel
          clear hb2 hcs hfs hfr hsl2 hnew2 hbel
          go_wp2
          go_roundw
          case rel => exact ⟨m + 1, T + 1, _, a2, n2, c2, by omega, by go_num, by go_num, by omega, by omega, by omega, R.1, R.2.1, R.2.2.1, R.2.2.2.1, R.2.2.2.2.1, hst, R.2.2.2.2.2⟩
          case measure => simp [intOf]; omega
      · obtain rfl : m = L.length := by omega
        have hrS := cell_rl hci b0 (by omega)
        have j0 : 0 ≤ k % (T + 1) := Int.emod_nonneg _ (by omega)
        have j1 : k % (T + 1) < T + 1 := Int.emod_lt_of_pos k (by omega)
        obtain ⟨j, hj⟩ : ∃ j, k % (T + 1) = j := ⟨_, rfl⟩
        rw [hj] at j0 j1
        have e1 := hide (cell_end hci k0)
        have e2 := hide (cell_end hci j0)
        have hV := hs'.below hbel
        clear hcell hci hs'
        go_wp2_with fail
        refine (select_any _ S k _ hsl hrS k0 k1).mono ?_
        rintro e w2 ⟨rfl, hb2⟩
        rw [e1.out]
        have hc2 := (hb2.cell (p := ⟨w.heap.size, 0, none⟩) (by simp; omega)).trans hcs
        have hV2 := hV.below hb2
        have hS2 := hsl.below hb2
        have hz2 := Nat.le_trans hz hb2.size
        have hB2 := hbel.trans (hb2.mono hbel.size)
        clear hb2 hV hsl hcs
        go_wp2_with fail
        refine (kth_any _ L b k _ hV2 b0 (by omega) k0 k1).mono ?_
        rintro e w3 ⟨rfl, rfl⟩
        go_wp2_with fail
        refine (select_any _ S j _ hS2 hrS j0 (by omega)).mono ?_
        rintro e w4 ⟨rfl, hb4⟩
        rw [e2.out]
        have hV4 := hV2.below hb4
        have hB4 := hB2.trans (hb4.mono hB2.size)
        go_wp2_with fail
        refine (kth_any _ L b j _ hV4 b0 (by omega) j0 (by omega)).mono ?_
        rintro e w5 ⟨rfl, rfl⟩
        go_wp2_with fail
        go_ret
        exact ⟨ret_bool (by simp), hB4⟩
  · obtain ⟨b, hbe⟩ : ∃ b, b = base := ⟨_, rfl⟩
    have b0 : -9223372036854775808 ≤ b := by omega
    have b1 : b ≤ 9223372036854773759 := by omega
    go_enter Ybjm.func6, Ybjm.ntmps6
    subst hbe
    go_wp2
    go_loopw [8, 9] (fun t i wr => ∃ (m : Nat) (T : Int) (S : List (Int × Int)) (va : Option Addr) (vn vc : Nat), m ≤ L.length ∧ i = .int .i64 m ∧ t = .int .u64 T ∧ 0 ≤ T ∧ T ≤ m ∧ S.length ≤ m ∧ wr.cell? ⟨w.heap.size, 0, none⟩ = some (.slice va vn vc) ∧ Sl .i64 wr (.slice va vn vc) S ∧ Fr (w.heap.size + 1) (.slice va vn vc) ∧
        wr.frozen? ⟨w.heap.size, 0, none⟩ = false ∧ w.heap.size + 1 ≤ wr.heap.size ∧ CellInv L b m S ∧ Below w.heap.size w wr)
      (fun _ i _ => L.length - (intOf i).toNat)
    case atStart => exact ⟨0, 0, [], none, 0, 0, Nat.zero_le _, rfl, rfl, by omega, by omega, Nat.le_refl _, by simp [go_sem], Sl.nil _ _, Fr.nil _, by simp [go_sem], by simp, cell_start, (Below.refl _ _).alloc (Nat.le_refl _) _⟩
    case round =>
      obtain ⟨m, T, S, va, vn, vc, hm', rfl, rfl, hT0, hT1, hSm, hcs, hsl, hfr, hfs, hz, hci, hbel⟩ := hrel
      by_cases hlt : m < L.length
      · obtain ⟨bb, off, rfl, hb, hc⟩ := hcell (by omega)
        have hq := slb_cell hb hc hbel hlt
        clear hc hcell
        cases hcb : boA L m
        · have hst := cell_skip hci hcb
          rw [hcb] at hq
          clear hci hcb hs'
          go_wp2
          go_roundw
          case rel => exact ⟨m + 1, T, S, va, vn, vc, by omega, by go_num, rfl, hT0, by omega, by omega, hcs, hsl, hfr, hfs, hz, hst, hbel⟩
          case measure => simp [intOf]; omega
        · have hst := cell_add hci hcb
          have hln := add_length S (b + m) (b + m + 1)
          rw [hcb] at hq
          clear hci hcb hs'
          go_wp2_with fail
          refine (add_any _ S (b + m) (b + m + 1) _ hsl (by omega)).mono ?_
          rintro e w2 ⟨v2, rfl, hsl2, hnew2, hb2⟩
          obtain ⟨a2, n2, c2, hv2⟩ := hsl2.shape
          subst hv2
          have hc2 := (hb2.cell (p := ⟨w.heap.size, 0, none⟩) (by simp; omega)).trans hcs
          have hf2 := (hb2.frozen (p := ⟨w.heap.size, 0, none⟩) (by simp; omega)).trans hfs
          have R := jc_round hz hb2 hcs hfs hfr hsl2 hnew2 hbel
          clear hb2 hcs hfs hfr hsl2 hnew2 hbel
          go_wp2
          go_roundw
          case rel => exact ⟨m + 1, T + 1, _, a2, n2, c2, by omega, by go_num, by go_num, by omega, by omega, by omega, R.1, R.2.1, R.2.2.1, R.2.2.2.1, R.2.2.2.2.1, hst, R.2.2.2.2.2⟩
          case measure => simp [intOf]; omega
      · obtain rfl : m = L.length := by omega
        have hrS := cell_rl hci b0 (by omega)
        have j0 : 0 ≤ k % (T + 1) := Int.emod_nonneg _ (by omega)
        have j1 : k % (T + 1) < T + 1 := Int.emod_lt_of_pos k (by omega)
        obtain ⟨j, hj⟩ : ∃ j, k % (T + 1) = j := ⟨_, rfl⟩
        rw [hj] at j0 j1
        have e1 := hide (cell_end hci k0)
        have e2 := hide (cell_end hci j0)
        have hV := hs'.below hbel
        clear hcell hci hs'
        go_wp2_with fail
        refine (select_any _ S k _ hsl hrS k0 k1).mono ?_
        rintro e w2 ⟨rfl, hb2⟩
        rw [e1.out]
        have hc2 := (hb2.cell (p := ⟨w.heap.size, 0, none⟩) (by simp; omega)).trans hcs
        have hV2 := hV.below hb2
        have hS2 := hsl.below hb2
        have hz2 := Nat.le_trans hz hb2.size
        have hB2 := hbel.trans (hb2.mono hbel.size)
        clear hb2 hV hsl hcs
        go_wp2_with fail
        refine (kth_any _ L b k _ hV2 b0 (by omega) k0 k1).mono ?_
        rintro e w3 ⟨rfl, rfl⟩
        go_wp2_with fail
        refine (select_any _ S j _ hS2 hrS j0 (by omega)).mono ?_
        rintro e w4 ⟨rfl, hb4⟩
        rw [e2.out]
        have hV4 := hV2.below hb4
        have hB4 := hB2.trans (hb4.mono hB2.size)
        go_wp2_with fail
        refine (kth_any _ L b j _ hV4 b0 (by omega) j0 (by omega)).mono ?_
        rintro e w5 ⟨rfl, rfl⟩
        go_wp2_with fail
        go_ret
        exact ⟨ret_bool (by simp), hB4⟩

end Go.Proofs.Ymbrbj
