import Derived.Test.YmbrbjPCnt
namespace Go.Proofs.Ymbrbj
open Go.RowKit

set_option maxHeartbeats 400000 in
theorem count_any (v : Value) (L : List (Int × Int)) (w : World) (hs : Sl .i64 w v L) (hr : RL .i64 L) :
    Calls Ybjm.prog 22 #[.agg #[v]] w fun e w' => e = .returned (.int .u64 (u64 (cnt L))) ∧ Below w.heap.size w w' := by
  obtain ⟨ao, cap, rfl, hl, hm, hcell⟩ := hs
  have hinit := cnt_start (L := L)
  go_enter Ybjm.func22, Ybjm.ntmps22
  go_wp2
  go_loopw [3, 4] (fun t i wr => ∃ (k : Nat) (T : Int), k ≤ L.length ∧ i = .int .i64 k ∧ t = .int .u64 T ∧ 0 ≤ T ∧ T ≤ 18446744073709551615 ∧ Hid (u64 (cnt L) = u64 (T + cnt (L.drop k))) ∧ Below (w.heap.size + 1) (w.alloc (.cells #[.slice ao L.length cap] 24)) wr)
    (fun _ i _ => L.length - (intOf i).toNat)
  case atStart => exact ⟨0, 0, Nat.zero_le _, rfl, rfl, Int.le_refl 0, by omega, hinit, Below.refl _ _⟩
  case round =>
    obtain ⟨k, T, hk, rfl, rfl, hT0, hT1, he, hbel⟩ := hrel
    have hbox : wr.cell? ⟨w.heap.size, 0, none⟩ = some (.slice ao L.length cap) := (hbel.cell (p := ⟨w.heap.size, 0, none⟩) (by simp)).trans (by simp [go_sem])
    have hbw : Below w.heap.size w wr := ((Below.refl _ _).alloc (Nat.le_refl _) _).trans (hbel.mono (by omega))
    clear hinit
    by_cases hlt : k < L.length
    · obtain ⟨b, off, rfl, hb, hc⟩ := hcell (by omega)
      obtain ⟨hc0, hc1⟩ := hc.get hbw hb hlt
      obtain ⟨⟨g1, g2⟩, g3, g4⟩ := hr.at hlt
      have hst := cnt_step hlt he
      have hu := u64_range (T + size (loA L k) (hiA L k))
      have hz := hbel.size
      clear hcell hc he
      go_wp2_with fail
      refine (size_any _ _ _ g1 g4).mono ?_
      rintro e w2 ⟨rfl, rfl⟩
      go_wp2_with fail
      go_roundw
      case rel => exact ⟨k + 1, _, by omega, by go_num, rfl, hu.1, hu.2, hst, hbel.alloc (by simp at hz; omega) _⟩
      case measure => simp [intOf]; omega
    · clear hcell
      go_wp2
      go_ret
      exact ⟨ret_int (cnt_end (by omega) hT0 hT1 he), hbw⟩

set_option maxHeartbeats 400000 in
theorem rank_any (v : Value) (L : List (Int × Int)) (x : Int) (w : World) (hs : Sl .i64 w v L) (hr : RL .i64 L) (hx2 : x ≤ 9223372036854775807) :
    Calls Ybjm.prog 23 #[.agg #[v], .int .i64 x] w fun e w' => e = .returned (.int .u64 (u64 (rank L x))) ∧ Below w.heap.size w w' := by
  obtain ⟨ao, cap, rfl, hl, hm, hcell⟩ := hs
  have hinit := rank_start (L := L) (x := x)
  go_enter Ybjm.func23, Ybjm.ntmps23
  go_wp2
  go_loopw [5, 6] (fun t i wr => ∃ (k : Nat) (T : Int), k ≤ L.length ∧ i = .int .i64 k ∧ t = .int .u64 T ∧ 0 ≤ T ∧ T ≤ 18446744073709551615 ∧ Hid (u64 (rank L x) = u64 (T + rank (L.drop k) x)) ∧ Below (w.heap.size + 1) (w.alloc (.cells #[.slice ao L.length cap] 24)) wr)
    (fun _ i _ => L.length - (intOf i).toNat)
  case atStart => exact ⟨0, 0, Nat.zero_le _, rfl, rfl, Int.le_refl 0, by omega, hinit, Below.refl _ _⟩
  case round =>
    obtain ⟨k, T, hk, rfl, rfl, hT0, hT1, he, hbel⟩ := hrel
    have hbox : wr.cell? ⟨w.heap.size, 0, none⟩ = some (.slice ao L.length cap) := (hbel.cell (p := ⟨w.heap.size, 0, none⟩) (by simp)).trans (by simp [go_sem])
    have hbw : Below w.heap.size w wr := ((Below.refl _ _).alloc (Nat.le_refl _) _).trans (hbel.mono (by omega))
    clear hinit
    by_cases hlt : k < L.length
    · obtain ⟨b, off, rfl, hb, hc⟩ := hcell (by omega)
      obtain ⟨hc0, hc1⟩ := hc.get hbw hb hlt
      obtain ⟨⟨g1, g2⟩, g3, g4⟩ := hr.at hlt
      have hz := hbel.size
      have hz' : w.heap.size + 1 ≤ wr.heap.size := by simp at hz; omega
      clear hcell hc hz
      rcases Int.lt_or_le x (hiA L k) with hx | hx
      · have hfin := hide (rank_hit hlt hx he)
        go_wp2_with fail
        refine (size_any _ _ _ g1 hx2).mono ?_
        rintro e w2 ⟨rfl, rfl⟩
        go_wp2_with fail
        go_ret
        exact ⟨ret_int hfin.out, (hbw.alloc (by omega) _).alloc (by simp; omega) _⟩
      · have hst := rank_step hlt hx he
        have hu := u64_range (T + size (loA L k) (hiA L k))
        go_wp2_with fail
        refine (size_any _ _ _ g1 g4).mono ?_
        rintro e w2 ⟨rfl, rfl⟩
        go_wp2_with fail
        go_roundw
        case rel => exact ⟨k + 1, _, by omega, by go_num, rfl, hu.1, hu.2, hst, (hbel.alloc hz' _).alloc (by simp; omega) _⟩
        case measure => simp [intOf]; omega
    · clear hcell
      go_wp2
      go_ret
      exact ⟨ret_int (rank_end (by omega) hT0 hT1 he), hbw⟩

theorem ret_pair {s : Int × Bool} {a : Int} {b : Bool} (h : s = (a, b)) : Ending.returned (.tuple #[.int .i64 a, .bool b]) = .returned (.tuple #[.int .i64 s.1, .bool s.2]) := by rw [h]

set_option maxHeartbeats 400000 in
theorem select_any (v : Value) (L : List (Int × Int)) (j : Int) (w : World) (hs : Sl .i64 w v L) (hr : RL .i64 L) (hj1 : 0 ≤ j) (hj2 : j ≤ 18446744073709551615) :
    Calls Ybjm.prog 19 #[.agg #[v], .int .u64 j] w fun e w' => e = .returned (.tuple #[.int .i64 (sel L j).1, .bool (sel L j).2]) ∧ Below w.heap.size w w' := by
  obtain ⟨ao, cap, rfl, hl, hm, hcell⟩ := hs
  go_enter Ybjm.func19, Ybjm.ntmps19
  go_wp2
  go_loopw [1, 6] (fun t i wr => ∃ (k : Nat) (T : Int), k ≤ L.length ∧ i = .int .i64 k ∧ t = .int .u64 T ∧ 0 ≤ T ∧ T ≤ 18446744073709551615 ∧ Hid (sel L j = sel (L.drop k) T) ∧ Below (w.heap.size + 1) (w.alloc (.cells #[.slice ao L.length cap] 24)) wr)
    (fun _ i _ => L.length - (intOf i).toNat)
  case atStart => exact ⟨0, j, Nat.zero_le _, rfl, rfl, hj1, hj2, rfl, Below.refl _ _⟩
  case round =>
    obtain ⟨k, T, hk, rfl, rfl, hT0, hT1, he, hbel⟩ := hrel
    have hbox : wr.cell? ⟨w.heap.size, 0, none⟩ = some (.slice ao L.length cap) := (hbel.cell (p := ⟨w.heap.size, 0, none⟩) (by simp)).trans (by simp [go_sem])
    have hbw : Below w.heap.size w wr := ((Below.refl _ _).alloc (Nat.le_refl _) _).trans (hbel.mono (by omega))
    by_cases hlt : k < L.length
    · obtain ⟨b, off, rfl, hb, hc⟩ := hcell (by omega)
      obtain ⟨hc0, hc1⟩ := hc.get hbw hb hlt
      obtain ⟨⟨g1, g2⟩, g3, g4⟩ := hr.at hlt
      have hz := hbel.size
      have hz' : w.heap.size + 1 ≤ wr.heap.size := by simp at hz; omega
      have hsr := size_range g1 g4
      obtain ⟨hs0, hs1⟩ := hsr
      have hbl : b < wr.heap.size := by omega
      have hwl : w.heap.size < wr.heap.size := by omega
      clear hcell hc hz
      rcases Int.lt_or_le T (size (loA L k) (hiA L k)) with hx | hx
      · have hfin := hide (sel_hit hlt hx he)
        have hcv := hide (sel_conv g1 g4 hT0 hx)
        go_wp2_with fail
        refine (size_any _ _ _ g1 g4).mono ?_
        rintro e w2 ⟨rfl, rfl⟩
        go_wp2_with fail
        go_ret2
        exact ⟨ret_pair (by rw [hfin.out, hcv.out]), hbw.alloc (by omega) _⟩
      · have hst := sel_step hlt hx he
        go_wp2_with fail
        refine (size_any _ _ _ g1 g4).mono ?_
        rintro e w2 ⟨rfl, rfl⟩
        go_wp2_with fail
        go_roundw
        case rel => exact ⟨k + 1, _, by omega, by go_num, rfl, by omega, by omega, hst, hbel.alloc hz' _⟩
        case measure => simp [intOf]; omega
    · clear hcell
      have hfin := hide (sel_end (by omega) he)
      go_wp2
      go_ret2
      exact ⟨ret_pair hfin.out, hbw⟩
end Go.Proofs.Ymbrbj
