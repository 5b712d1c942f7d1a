import Derived.Test.YmbrbjOwn
import Derived.Test.YmbrbjPAdd
namespace Go.Proofs.Ymbrbj
open Go.RowKit

/-- lo >= hi: the set itself. -/
theorem add_same (v : Value) (L : List (Int × Int)) (lo hi : Int) (w : World) (hs : Sl .i64 w v L) (h0 : hi ≤ lo) :
    Calls Ybjm.prog 18 #[.agg #[v], .int .i64 lo, .int .i64 hi] w fun e w' => ∃ v', e = .returned (.agg #[v']) ∧ Sl .i64 w' v' (add L lo hi) ∧ New w.heap.size v v' ∧ Below w.heap.size w w' := by
  have hs' := hs
  obtain ⟨ao, cap, rfl, hl, hm, hcell⟩ := hs
  clear hcell
  go_enter Ybjm.func18, Ybjm.ntmps18
  go_wp2
  refine bodyPost_ret (v := .agg #[.slice ao L.length cap]) (by simp [results, Ybjm.results18, go_sem]) rfl ⟨_, rfl, ?_, .inl rfl, ((Below.refl _ _).alloc (Nat.le_refl _) _).alloc (by simp) _⟩
  rw [add, if_pos h0]
  exact (hs'.alloc _).alloc _

set_option maxHeartbeats 1000000 in
/-- The empty list. -/
theorem add_none (ao : Option Addr) (cap : Nat) (lo hi : Int) (w : World) (h0 : lo < hi) :
    Calls Ybjm.prog 18 #[.agg #[.slice ao 0 cap], .int .i64 lo, .int .i64 hi] w fun e w' => ∃ v', e = .returned (.agg #[v']) ∧ Sl .i64 w' v' [(lo, hi)] ∧ New w.heap.size (.slice ao 0 cap) v' ∧ Below w.heap.size w w' := by
  go_enter Ybjm.func18, Ybjm.ntmps18
  go_wp2_with (at_make; refine wp_mk0 _ (w.heap.size + 2) (by simp) rfl _ _ rfl _ 1 rfl rfl (by omega) (by omega) ?_; intro w1 hown1 hb1)
  have hbw : Below w.heap.size w w1 := (((Below.refl _ _).alloc (Nat.le_refl _) _).alloc (by simp) _).trans (hb1.mono (by omega))
  have hz1 : w.heap.size + 2 ≤ w1.heap.size := by have := hb1.size; simp at this; omega
  have hres1 : w1.cell? ⟨w.heap.size + 1, 0, none⟩ = some (.slice none 0 0) := by rw [hb1.cell (p := ⟨w.heap.size + 1, 0, none⟩) (by simp)]; simp [go_sem]
  have hfr1 : w1.frozen? ⟨w.heap.size + 1, 0, none⟩ = false := by rw [hb1.frozen (p := ⟨w.heap.size + 1, 0, none⟩) (by simp)]; simp [go_sem]
  refine wp_loop_rounds 1 ?_
  rw [rounds_succ]
  go_wp2
  refine wp_loop_rounds 1 ?_
  rw [rounds_succ]
  go_wp2_with (at_builtin; refine wp_app w1 lo hi rfl _ _ rfl (w.heap.size + 2) _ _ 0 [] rfl hown1 rfl (by omega) (by omega) ?_; intro ao2 cap2 w2 hown2 hb2)
  have hres2 := (hb2.cell (p := ⟨w.heap.size + 1, 0, none⟩) (by simp)).trans hres1
  have hfr2 := (hb2.frozen (p := ⟨w.heap.size + 1, 0, none⟩) (by simp)).trans hfr1
  have hz2 := hb2.size
  refine wp_loop_rounds 1 ?_
  rw [rounds_succ]
  go_wp2
  exact bodyPost_ret (v := .agg #[.slice ao2 1 cap2]) (by simp [results, Ybjm.results18, go_sem, hres2]) rfl
    ⟨_, rfl, (hown2.setBelow (by simp) _).sl, .inr (fun g hg => Nat.le_trans (by omega) (hown2.fr g hg)), ((hbw.trans (hb2.mono (by omega))).setCell (by simp) _)⟩

set_option maxHeartbeats 2000000 in
/-- A list that is not empty. -/
theorem add_some (L : List (Int × Int)) (b off cap : Nat) (lo hi : Int) (w : World) (h0 : lo < hi) (hn : L.length ≤ 100000) (hl : L.length ≤ cap) (hm : cap ≤ 9223372036854775807) (hb : b < w.heap.size)
    (hc : CellsAt .i64 w b off L) :
    Calls Ybjm.prog 18 #[.agg #[.slice (some ⟨b, off, none⟩) L.length cap], .int .i64 lo, .int .i64 hi] w fun e w' => ∃ v', e = .returned (.agg #[v']) ∧ Sl .i64 w' v' (add L lo hi) ∧ New w.heap.size (.slice (some ⟨b, off, none⟩) L.length cap) v' ∧ Below w.heap.size w w' := by
  have hinit := add_start (L := L) h0
  go_enter Ybjm.func18, Ybjm.ntmps18
  go_wp2_with (at_make; refine wp_mk0 _ (w.heap.size + 2) (by simp) rfl _ _ rfl _ (L.length + 1) rfl rfl (by omega) (by omega) ?_; intro w1 hown1 hb1)
  have hbw : Below w.heap.size w w1 := (((Below.refl _ _).alloc (Nat.le_refl _) _).alloc (by simp) _).trans (hb1.mono (by omega))
  have hz1 : w.heap.size + 2 ≤ w1.heap.size := by have := hb1.size; simp at this; omega
  have hbox1 : w1.cell? ⟨w.heap.size, 0, none⟩ = some (.slice (some ⟨b, off, none⟩) L.length cap) := by rw [hb1.cell (p := ⟨w.heap.size, 0, none⟩) (by simp)]; simp [go_sem]
  have hres1 : w1.cell? ⟨w.heap.size + 1, 0, none⟩ = some (.slice none 0 0) := by rw [hb1.cell (p := ⟨w.heap.size + 1, 0, none⟩) (by simp)]; simp [go_sem]
  have hfr1 : w1.frozen? ⟨w.heap.size + 1, 0, none⟩ = false := by rw [hb1.frozen (p := ⟨w.heap.size + 1, 0, none⟩) (by simp)]; simp [go_sem]
  clear hb1
  go_loopw [8, 9] (fun v i wr => ∃ (k : Nat) (M : List (Int × Int)) (ao' : Option Addr) (cap' : Nat), k ≤ L.length ∧ i = .int .i64 k ∧ v = .slice ao' k cap' ∧ Own wr (w.heap.size + 2) ao' cap' k M ∧ Hid (add L lo hi = M ++ addR lo hi (L.drop k)) ∧ Below (w.heap.size + 2) w1 wr)
    (fun _ i _ => L.length - (intOf i).toNat)
  case atStart => exact ⟨0, [], _, _, Nat.zero_le _, rfl, rfl, hown1, hinit, Below.refl _ _⟩
  case round =>
    obtain ⟨k, M, ao', cap', hk, rfl, rfl, hown, he, hbel⟩ := hrel
    have hbox := (hbel.cell (p := ⟨w.heap.size, 0, none⟩) (by simp)).trans hbox1
    have hz := hbel.size
    clear hown1 hinit
    by_cases hgo : k < L.length ∧ hiA L k < lo
    · obtain ⟨hlt, hx⟩ := hgo
      obtain ⟨hc0, hc1⟩ := hc.get (hbw.trans (hbel.mono (by omega))) hb hlt
      have hst := add_1 hlt he hx
      go_wp2_with (at_builtin; refine wp_app wr (loA L k) (hiA L k) rfl _ _ rfl (w.heap.size + 2) ao' cap' k M rfl hown rfl (by omega) (by omega) ?_; intro ao2 cap2 w2 hown2 hb2)
      go_roundw
      case rel => exact ⟨k + 1, _, ao2, cap2, by omega, by go_num, by go_num, hown2, hst, hbel.trans hb2⟩
      case measure => simp [intOf]; omega
    · have he2 := add_12 he (fun h => by omega)
      have hx : k < L.length → lo ≤ hiA L k := fun h => by omega
      clear hgo he
      by_cases hlt : k < L.length
      · have hx' := hx hlt
        obtain ⟨hc0, hc1⟩ := hc.get (hbw.trans (hbel.mono (by omega))) hb hlt
        clear hx
        go_wp2
        clear hc0 hc1 hx' hlt
        go_loop [1, 2, 9] (fun l h i => ∃ (k2 : Nat) (lo' hi' : Int), k2 ≤ L.length ∧ i = .int .i64 k2 ∧ l = .int .i64 lo' ∧ h = .int .i64 hi' ∧ Hid (add L lo hi = M ++ addM lo' hi' (L.drop k2))) (fun _ _ i => L.length - (intOf i).toNat)
        case atStart => exact ⟨k, lo, hi, hk, rfl, rfl, rfl, he2⟩
        case round =>
          obtain ⟨k2, lo', hi', hk2, rfl, rfl, rfl, he3⟩ := hrel
          clear he2
          by_cases hgo : k2 < L.length ∧ loA L k2 ≤ hi'
          · obtain ⟨hlt, hx⟩ := hgo
            obtain ⟨hc0, hc1⟩ := hc.get (hbw.trans (hbel.mono (by omega))) hb hlt
            have hst := add_2 hlt he3 hx
            clear he3
            rcases Int.lt_or_le (loA L k2) lo' with h1 | h1 <;> rcases Int.lt_or_le hi' (hiA L k2) with h2 | h2
            all_goals
              first | rw [if_pos h1] at hst | rw [if_neg (by omega)] at hst
              first | rw [if_pos h2] at hst | rw [if_neg (by omega)] at hst
              go_wp2
              go_round
              case rel => exact ⟨k2 + 1, _, _, by omega, by go_num, rfl, rfl, hst⟩
              case measure => simp [intOf]; omega
          · have he4 := add_23 he3 (fun h => by omega)
            have hx : k2 < L.length → hi' < loA L k2 := fun h => by omega
            clear hgo he3
            by_cases hlt : k2 < L.length
            · have hx' := hx hlt
              obtain ⟨hc0, hc1⟩ := hc.get (hbw.trans (hbel.mono (by omega))) hb hlt
              clear hx
              go_wp2_with (at_builtin; refine wp_app wr lo' hi' rfl _ _ rfl (w.heap.size + 2) ao' cap' k M rfl hown rfl (by omega) (by omega) ?_; intro ao2 cap2 w2 hown2 hb2)
              clear hc0 hc1 hx' hlt hown
              go_loopw [8, 9] (fun v i wr3 => ∃ (k3 n3 : Nat) (M3 : List (Int × Int)) (ao3 : Option Addr) (cap3 : Nat), k3 ≤ L.length ∧ n3 ≤ 100001 + k3 ∧ i = .int .i64 k3 ∧ v = .slice ao3 n3 cap3 ∧ Own wr3 (w.heap.size + 2) ao3 cap3 n3 M3 ∧ Hid (add L lo hi = M3 ++ L.drop k3) ∧ Below (w.heap.size + 2) w1 wr3)
                (fun _ i _ => L.length - (intOf i).toNat)
              case atStart => exact ⟨k2, k + 1, _, ao2, cap2, hk2, by omega, rfl, rfl, hown2, he4, hbel.trans hb2⟩
              case round =>
                obtain ⟨k3, n3, M3, ao3, cap3, hk3, hn3, rfl, rfl, hown3, he5, hbel3⟩ := hrel
                have hbox3 := (hbel3.cell (p := ⟨w.heap.size, 0, none⟩) (by simp)).trans hbox1
                have hz3 := hbel3.size
                clear he4 hown2 hbox
                by_cases hlt : k3 < L.length
                · obtain ⟨hc0, hc1⟩ := hc.get (hbw.trans (hbel3.mono (by omega))) hb hlt
                  have hst := add_3 hlt he5
                  clear he5
                  go_wp2_with (at_builtin; refine wp_app wr (loA L k3) (hiA L k3) rfl _ _ rfl (w.heap.size + 2) ao3 cap3 n3 M3 rfl hown3 rfl (by omega) (by omega) ?_; intro ao4 cap4 w4 hown4 hb4)
                  go_roundw
                  case rel => exact ⟨k3 + 1, n3 + 1, _, ao4, cap4, by omega, by omega, by go_num, rfl, hown4, hst, hbel3.trans hb4⟩
                  case measure => simp [intOf]; omega
                · have hres3 := (hbel3.cell (p := ⟨w.heap.size + 1, 0, none⟩) (by simp)).trans hres1
                  have hfr3 := (hbel3.frozen (p := ⟨w.heap.size + 1, 0, none⟩) (by simp)).trans hfr1
                  go_wp2
                  refine bodyPost_ret (v := .agg #[.slice ao3 n3 cap3]) (by simp [results, Ybjm.results18, go_sem, hres3]) rfl ⟨_, rfl, ?_, .inr (fun g hg => Nat.le_trans (by omega) (hown3.fr g hg)), ((hbw.trans (hbel3.mono (by omega))).setCell (by simp) _)⟩
                  rw [add_end (by omega) he5]
                  exact (hown3.setBelow (by simp) _).sl
            · clear hx
              go_wp2_with (at_builtin; refine wp_app wr lo' hi' rfl _ _ rfl (w.heap.size + 2) ao' cap' k M rfl hown rfl (by omega) (by omega) ?_; intro ao2 cap2 w2 hown2 hb2)
              clear hlt hown
              go_loopw [8, 9] (fun v i wr3 => ∃ (k3 n3 : Nat) (M3 : List (Int × Int)) (ao3 : Option Addr) (cap3 : Nat), k3 ≤ L.length ∧ n3 ≤ 100001 + k3 ∧ i = .int .i64 k3 ∧ v = .slice ao3 n3 cap3 ∧ Own wr3 (w.heap.size + 2) ao3 cap3 n3 M3 ∧ Hid (add L lo hi = M3 ++ L.drop k3) ∧ Below (w.heap.size + 2) w1 wr3)
                (fun _ i _ => L.length - (intOf i).toNat)
              case atStart => exact ⟨k2, k + 1, _, ao2, cap2, hk2, by omega, rfl, rfl, hown2, he4, hbel.trans hb2⟩
              case round =>
                obtain ⟨k3, n3, M3, ao3, cap3, hk3, hn3, rfl, rfl, hown3, he5, hbel3⟩ := hrel
                have hbox3 := (hbel3.cell (p := ⟨w.heap.size, 0, none⟩) (by simp)).trans hbox1
                have hz3 := hbel3.size
                clear he4 hown2 hbox
                by_cases hlt : k3 < L.length
                · obtain ⟨hc0, hc1⟩ := hc.get (hbw.trans (hbel3.mono (by omega))) hb hlt
                  have hst := add_3 hlt he5
                  clear he5
                  go_wp2_with (at_builtin; refine wp_app wr (loA L k3) (hiA L k3) rfl _ _ rfl (w.heap.size + 2) ao3 cap3 n3 M3 rfl hown3 rfl (by omega) (by omega) ?_; intro ao4 cap4 w4 hown4 hb4)
                  go_roundw
                  case rel => exact ⟨k3 + 1, n3 + 1, _, ao4, cap4, by omega, by omega, by go_num, rfl, hown4, hst, hbel3.trans hb4⟩
                  case measure => simp [intOf]; omega
                · have hres3 := (hbel3.cell (p := ⟨w.heap.size + 1, 0, none⟩) (by simp)).trans hres1
                  have hfr3 := (hbel3.frozen (p := ⟨w.heap.size + 1, 0, none⟩) (by simp)).trans hfr1
                  go_wp2
                  refine bodyPost_ret (v := .agg #[.slice ao3 n3 cap3]) (by simp [results, Ybjm.results18, go_sem, hres3]) rfl ⟨_, rfl, ?_, .inr (fun g hg => Nat.le_trans (by omega) (hown3.fr g hg)), ((hbw.trans (hbel3.mono (by omega))).setCell (by simp) _)⟩
                  rw [add_end (by omega) he5]
                  exact (hown3.setBelow (by simp) _).sl
      · clear hx
        go_wp2
        clear hlt
        go_loop [1, 2, 9] (fun l h i => ∃ (k2 : Nat) (lo' hi' : Int), k2 ≤ L.length ∧ i = .int .i64 k2 ∧ l = .int .i64 lo' ∧ h = .int .i64 hi' ∧ Hid (add L lo hi = M ++ addM lo' hi' (L.drop k2))) (fun _ _ i => L.length - (intOf i).toNat)
        case atStart => exact ⟨k, lo, hi, hk, rfl, rfl, rfl, he2⟩
        case round =>
          obtain ⟨k2, lo', hi', hk2, rfl, rfl, rfl, he3⟩ := hrel
          clear he2
          by_cases hgo : k2 < L.length ∧ loA L k2 ≤ hi'
          · obtain ⟨hlt, hx⟩ := hgo
            obtain ⟨hc0, hc1⟩ := hc.get (hbw.trans (hbel.mono (by omega))) hb hlt
            have hst := add_2 hlt he3 hx
            clear he3
            rcases Int.lt_or_le (loA L k2) lo' with h1 | h1 <;> rcases Int.lt_or_le hi' (hiA L k2) with h2 | h2
            all_goals
              first | rw [if_pos h1] at hst | rw [if_neg (by omega)] at hst
              first | rw [if_pos h2] at hst | rw [if_neg (by omega)] at hst
              go_wp2
              go_round
              case rel => exact ⟨k2 + 1, _, _, by omega, by go_num, rfl, rfl, hst⟩
              case measure => simp [intOf]; omega
          · have he4 := add_23 he3 (fun h => by omega)
            have hx : k2 < L.length → hi' < loA L k2 := fun h => by omega
            clear hgo he3
            by_cases hlt : k2 < L.length
            · have hx' := hx hlt
              obtain ⟨hc0, hc1⟩ := hc.get (hbw.trans (hbel.mono (by omega))) hb hlt
              clear hx
              go_wp2_with (at_builtin; refine wp_app wr lo' hi' rfl _ _ rfl (w.heap.size + 2) ao' cap' k M rfl hown rfl (by omega) (by omega) ?_; intro ao2 cap2 w2 hown2 hb2)
              clear hc0 hc1 hx' hlt hown
              go_loopw [8, 9] (fun v i wr3 => ∃ (k3 n3 : Nat) (M3 : List (Int × Int)) (ao3 : Option Addr) (cap3 : Nat), k3 ≤ L.length ∧ n3 ≤ 100001 + k3 ∧ i = .int .i64 k3 ∧ v = .slice ao3 n3 cap3 ∧ Own wr3 (w.heap.size + 2) ao3 cap3 n3 M3 ∧ Hid (add L lo hi = M3 ++ L.drop k3) ∧ Below (w.heap.size + 2) w1 wr3)
                (fun _ i _ => L.length - (intOf i).toNat)
              case atStart => exact ⟨k2, k + 1, _, ao2, cap2, hk2, by omega, rfl, rfl, hown2, he4, hbel.trans hb2⟩
              case round =>
                obtain ⟨k3, n3, M3, ao3, cap3, hk3, hn3, rfl, rfl, hown3, he5, hbel3⟩ := hrel
                have hbox3 := (hbel3.cell (p := ⟨w.heap.size, 0, none⟩) (by simp)).trans hbox1
                have hz3 := hbel3.size
                clear he4 hown2 hbox
                by_cases hlt : k3 < L.length
                · obtain ⟨hc0, hc1⟩ := hc.get (hbw.trans (hbel3.mono (by omega))) hb hlt
                  have hst := add_3 hlt he5
                  clear he5
                  go_wp2_with (at_builtin; refine wp_app wr (loA L k3) (hiA L k3) rfl _ _ rfl (w.heap.size + 2) ao3 cap3 n3 M3 rfl hown3 rfl (by omega) (by omega) ?_; intro ao4 cap4 w4 hown4 hb4)
                  go_roundw
                  case rel => exact ⟨k3 + 1, n3 + 1, _, ao4, cap4, by omega, by omega, by go_num, rfl, hown4, hst, hbel3.trans hb4⟩
                  case measure => simp [intOf]; omega
                · have hres3 := (hbel3.cell (p := ⟨w.heap.size + 1, 0, none⟩) (by simp)).trans hres1
                  have hfr3 := (hbel3.frozen (p := ⟨w.heap.size + 1, 0, none⟩) (by simp)).trans hfr1
                  go_wp2
                  refine bodyPost_ret (v := .agg #[.slice ao3 n3 cap3]) (by simp [results, Ybjm.results18, go_sem, hres3]) rfl ⟨_, rfl, ?_, .inr (fun g hg => Nat.le_trans (by omega) (hown3.fr g hg)), ((hbw.trans (hbel3.mono (by omega))).setCell (by simp) _)⟩
                  rw [add_end (by omega) he5]
                  exact (hown3.setBelow (by simp) _).sl
            · clear hx
              go_wp2_with (at_builtin; refine wp_app wr lo' hi' rfl _ _ rfl (w.heap.size + 2) ao' cap' k M rfl hown rfl (by omega) (by omega) ?_; intro ao2 cap2 w2 hown2 hb2)
              clear hlt hown
              go_loopw [8, 9] (fun v i wr3 => ∃ (k3 n3 : Nat) (M3 : List (Int × Int)) (ao3 : Option Addr) (cap3 : Nat), k3 ≤ L.length ∧ n3 ≤ 100001 + k3 ∧ i = .int .i64 k3 ∧ v = .slice ao3 n3 cap3 ∧ Own wr3 (w.heap.size + 2) ao3 cap3 n3 M3 ∧ Hid (add L lo hi = M3 ++ L.drop k3) ∧ Below (w.heap.size + 2) w1 wr3)
                (fun _ i _ => L.length - (intOf i).toNat)
              case atStart => exact ⟨k2, k + 1, _, ao2, cap2, hk2, by omega, rfl, rfl, hown2, he4, hbel.trans hb2⟩
              case round =>
                obtain ⟨k3, n3, M3, ao3, cap3, hk3, hn3, rfl, rfl, hown3, he5, hbel3⟩ := hrel
                have hbox3 := (hbel3.cell (p := ⟨w.heap.size, 0, none⟩) (by simp)).trans hbox1
                have hz3 := hbel3.size
                clear he4 hown2 hbox
                by_cases hlt : k3 < L.length
                · obtain ⟨hc0, hc1⟩ := hc.get (hbw.trans (hbel3.mono (by omega))) hb hlt
                  have hst := add_3 hlt he5
                  clear he5
                  go_wp2_with (at_builtin; refine wp_app wr (loA L k3) (hiA L k3) rfl _ _ rfl (w.heap.size + 2) ao3 cap3 n3 M3 rfl hown3 rfl (by omega) (by omega) ?_; intro ao4 cap4 w4 hown4 hb4)
                  go_roundw
                  case rel => exact ⟨k3 + 1, n3 + 1, _, ao4, cap4, by omega, by omega, by go_num, rfl, hown4, hst, hbel3.trans hb4⟩
                  case measure => simp [intOf]; omega
                · have hres3 := (hbel3.cell (p := ⟨w.heap.size + 1, 0, none⟩) (by simp)).trans hres1
                  have hfr3 := (hbel3.frozen (p := ⟨w.heap.size + 1, 0, none⟩) (by simp)).trans hfr1
                  go_wp2
                  refine bodyPost_ret (v := .agg #[.slice ao3 n3 cap3]) (by simp [results, Ybjm.results18, go_sem, hres3]) rfl ⟨_, rfl, ?_, .inr (fun g hg => Nat.le_trans (by omega) (hown3.fr g hg)), ((hbw.trans (hbel3.mono (by omega))).setCell (by simp) _)⟩
                  rw [add_end (by omega) he5]
                  exact (hown3.setBelow (by simp) _).sl

theorem add_any (v : Value) (L : List (Int × Int)) (lo hi : Int) (w : World) (hs : Sl .i64 w v L) (hn : L.length ≤ 100000) :
    Calls Ybjm.prog 18 #[.agg #[v], .int .i64 lo, .int .i64 hi] w fun e w' => ∃ v', e = .returned (.agg #[v']) ∧ Sl .i64 w' v' (add L lo hi) ∧ New w.heap.size v v' ∧ Below w.heap.size w w' := by
  rcases Int.lt_or_le lo hi with h0 | h0
  · have hs' := hs
    obtain ⟨ao, cap, rfl, hl, hm, hcell⟩ := hs
    by_cases hL : 0 < L.length
    · obtain ⟨b, off, rfl, hb, hc⟩ := hcell hL
      exact add_some L b off cap lo hi w h0 hn hl hm hb hc
    · obtain rfl : L = [] := List.eq_nil_of_length_eq_zero (by omega)
      have : add [] lo hi = [(lo, hi)] := by rw [add, if_neg (by omega), addR]
      rw [this]
      exact add_none ao cap lo hi w h0
  · exact add_same v L lo hi w hs h0

end Go.Proofs.Ymbrbj
