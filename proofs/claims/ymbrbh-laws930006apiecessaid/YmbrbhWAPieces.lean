import Derived.Test.YmbrbhWABuild
import Derived.Test.YmbrbhWAdd
import Derived.Test.YmbrbhWEq
import Derived.Test.YmbrbhThyPcs
namespace Go.Proofs.Ymbrbh
open Go.RowKit

/-- The hull's two cells behind the two stores and a new block. -/
theorem hull_world {wr : World} {B : Nat} {u0 u1 x0 x1 : Value} (hv0 : wr.cell? ⟨B, 0, none⟩ = some x0) (hv1 : wr.cell? ⟨B, 1, none⟩ = some x1) (hg0 : wr.frozen? ⟨B, 0, none⟩ = false) (hg1 : wr.frozen? ⟨B, 1, none⟩ = false) (hz : B < wr.heap.size) (o : Obj) :
    (((wr.setCell ⟨B, 0, none⟩ u0).setCell ⟨B, 1, none⟩ u1).alloc o).cell? ⟨B, 0, none⟩ = some u0 ∧ (((wr.setCell ⟨B, 0, none⟩ u0).setCell ⟨B, 1, none⟩ u1).alloc o).cell? ⟨B, 1, none⟩ = some u1 ∧
    (((wr.setCell ⟨B, 0, none⟩ u0).setCell ⟨B, 1, none⟩ u1).alloc o).frozen? ⟨B, 0, none⟩ = false ∧ (((wr.setCell ⟨B, 0, none⟩ u0).setCell ⟨B, 1, none⟩ u1).alloc o).frozen? ⟨B, 1, none⟩ = false ∧
    B + 1 ≤ (((wr.setCell ⟨B, 0, none⟩ u0).setCell ⟨B, 1, none⟩ u1).alloc o).heap.size := by
  have z : B < ((wr.setCell ⟨B, 0, none⟩ u0).setCell ⟨B, 1, none⟩ u1).heap.size := by simpa using hz
  refine ⟨?_, ?_, ?_, ?_, by simp; omega⟩
  · rw [World.cell?_alloc_lt]
    · rw [World.cell?_setCell_other _ _ _ _ (by simp)]
      exact World.cell?_setCell_same _ _ _ hv0
    · exact z
  · rw [World.cell?_alloc_lt]
    · refine World.cell?_setCell_same _ _ _ (u := x1) ?_
      rw [World.cell?_setCell_other _ _ _ _ (by simp)]; exact hv1
    · exact z
  · rw [World.frozen?_alloc_old]
    · simpa using hg0
    · simp; omega
  · rw [World.frozen?_alloc_old]
    · simpa using hg1
    · simp; omega

set_option maxHeartbeats 4000000 in
theorem walk_APieces (st : Int) (v : Value) (S : List (Int × Int)) (lo hi : Int) (w : World) (w0 : (Lit.int .i64 st).wf = true) (hs : Sl .u64 w v S) (hr : RL .u64 S) (_ : (Lit.int .i64 lo).wf = true) (_ : (Lit.int .i64 hi).wf = true) :
    Calls Ybhm.prog 5 #[.int .i64 st, v, .int .i64 lo, .int .i64 hi] w fun e w' => e = .returned (.bool true) ∧ Below w.heap.size w w' := by
  obtain ⟨a1, a2⟩ := bounds_i64 w0
  clear w0
  have hs' := hs
  obtain ⟨ao, cap, rfl, hl, hm, hcell⟩ := hs
  clear hcell
  by_cases hbig : 1024 < S.length
  · go_enter Ybhm.func5, Ybhm.ntmps5
    go_wp2
    go_ret
    exact ⟨rfl, Below.refl _ _⟩
  · have hlen := buildA_length S st
    have hcan := buildA_canon hr st
    go_enter Ybhm.func5, Ybhm.ntmps5
    go_wp2_with fail
    refine (abuild_any st _ S _ a1 a2 hs' hr (by omega)).mono ?_
    rintro e w1 ⟨v1, rfl, hsl1, _, hb1⟩
    obtain ⟨a3, n1, c1, hv1⟩ := hsl1.shape
    subst hv1
    go_wp2_with fail
    refine (add_any _ (buildA st S) lo hi _ hsl1 (by omega)).mono ?_
    rintro e w2 ⟨v2, rfl, hsl2, _, hb2⟩
    obtain ⟨a4, n2, c2, hv2⟩ := hsl2.shape
    subst hv2
    have hb2' := hb1.trans (hb2.mono hb1.size)
    have hs2 := (hs'.below hb2').alloc (.cells #[.slice a4 n2 c2] 27)
    clear hsl1 hb1 hb2
    go_wp2_with fail
    refine (abuild_any st _ S _ a1 a2 hs2 hr (by omega)).mono ?_
    rintro e w3 ⟨v3, rfl, hsl3, _, hb3⟩
    generalize buildA st S = L at *
    have hL3 := hsl3
    obtain ⟨a5, c5, rfl, hl5, hm5, hcell5⟩ := hsl3
    have hbox3 : w3.cell? ⟨w2.heap.size, 0, none⟩ = some (.slice a4 n2 c2) := (hb3.cell (p := ⟨w2.heap.size, 0, none⟩) (by simp)).trans (by simp [go_sem])
    have hR3 := (hsl2.alloc _).below hb3
    have hz3 : w2.heap.size < w3.heap.size := by have := hb3.size; simp at this; omega
    have hb3' := hb2'.trans ((Below.ofAlloc hb3).mono hb2'.size)
    clear hb3 hs2 hs' hb2'
    rcases Int.lt_or_le lo hi with h0 | h0
    case inr =>
      have f1 : eqL (add L lo hi) L = true := by rw [add, if_pos h0]; simp [eqL]
      clear hcell5
      go_wp2_with fail
      refine (eq_aeq _ _ (add L lo hi) L _ hR3 hL3).mono ?_
      rintro e w4 ⟨rfl, hb4⟩
      rw [f1]
      go_wp2_with fail
      go_ret
      exact ⟨rfl, hb3'.trans (hb4.mono hb3'.size)⟩
    case inl =>
      have hpcs := hide (add_pcs hcan h0)
      go_wp2_with (at_make; refine wp_mk0 _ (w3.heap.size + 1) (by simp) rfl _ _ rfl _ (L.length + 1) rfl rfl (by omega) (by omega) ?_; intro w4 hown4 hb4)
      have hu0 : w4.cell? ⟨w3.heap.size, 0, none⟩ = some (.int .i64 lo) := (hb4.cell (p := ⟨w3.heap.size, 0, none⟩) (by simp)).trans (by simp [go_sem])
      have hu1 : w4.cell? ⟨w3.heap.size, 1, none⟩ = some (.int .i64 hi) := (hb4.cell (p := ⟨w3.heap.size, 1, none⟩) (by simp)).trans (by simp [go_sem])
      have hf0 : w4.frozen? ⟨w3.heap.size, 0, none⟩ = false := (hb4.frozen (p := ⟨w3.heap.size, 0, none⟩) (by simp)).trans (by simp [go_sem])
      have hf1 : w4.frozen? ⟨w3.heap.size, 1, none⟩ = false := (hb4.frozen (p := ⟨w3.heap.size, 1, none⟩) (by simp)).trans (by simp [go_sem])
      have hz4 : w3.heap.size + 1 ≤ w4.heap.size := by have := hb4.size; simp at this; omega
      have hb34 := Below.ofAlloc (hb4.mono (by simp) : Below (w3.alloc (.cells #[.int .i64 lo, .int .i64 hi] 34)).heap.size _ w4)
      clear hb4
      go_loopw [13, 14] (fun v i wr => ∃ (k n : Nat) (M : List (Int × Int)) (ao' : Option Addr) (cap' : Nat) (a b : Int), k ≤ L.length ∧ n ≤ k ∧ i = .int .i64 k ∧ v = .slice ao' n cap' ∧ Own wr (w3.heap.size + 1) ao' cap' n M ∧ wr.cell? ⟨w3.heap.size, 0, none⟩ = some (.int .i64 a) ∧ wr.cell? ⟨w3.heap.size, 1, none⟩ = some (.int .i64 b) ∧
          wr.frozen? ⟨w3.heap.size, 0, none⟩ = false ∧ wr.frozen? ⟨w3.heap.size, 1, none⟩ = false ∧ Hid (preL lo L = M ++ preL lo (L.drop k)) ∧ Hid (hullF lo hi lo hi L = hullF lo hi a b (L.drop k)) ∧ w3.heap.size + 1 ≤ wr.heap.size ∧ Below w3.heap.size w3 wr)
        (fun _ i _ => L.length - (intOf i).toNat)
      case atStart => exact ⟨0, 0, [], _, _, lo, hi, Nat.zero_le _, Nat.le_refl _, rfl, rfl, hown4, hu0, hu1, hf0, hf1, rfl, rfl, hz4, hb34⟩
      case round =>
        obtain ⟨k, n, M, ao', cap', a, b, hk, hnk, rfl, rfl, hown, hv0, hv1, hg0, hg1, hpre, hhull, hz, hbel⟩ := hrel
        clear hown4 hu0 hu1 hf0 hf1 hb34
        by_cases hlt : k < L.length
        · obtain ⟨b', off, rfl, hb', hc⟩ := hcell5 (by omega)
          obtain ⟨hc0, hc1⟩ := hc.get hbel hb' hlt
          have hzb : b' < wr.heap.size := by omega
          have hzh : w3.heap.size < wr.heap.size := by omega
          clear hcell5 hc
          rcases Int.lt_or_le (hiA L k) lo with e1 | e1
          · have hp2 := pre_hit hlt hpre e1
            have hh2 := hull_before hlt hhull e1
            clear hpre hhull
            go_wp2_with (at_builtin; refine wp_app3 _ (loA L k) (hiA L k) rfl _ _ rfl (w3.heap.size + 1) ao' cap' n M rfl ((hown.alloc _).alloc _) _ rfl (by simp [go_sem]) (by simp [go_sem]) (by omega) (by simp; omega) ?_; intro ao2 cap2 w5 hown5 hb5 hk5)
            have g5 := hb5.size
            simp only [World.size_alloc] at g5
            have q0 : w5.cell? ⟨w3.heap.size, 0, none⟩ = some (.int .i64 a) := (hb5.cell (p := ⟨w3.heap.size, 0, none⟩) (by simp)).trans (by rw [World.cell?_alloc_lt, World.cell?_alloc_lt]; exact hv0; exact hzh; simp; omega)
            have q1 : w5.cell? ⟨w3.heap.size, 1, none⟩ = some (.int .i64 b) := (hb5.cell (p := ⟨w3.heap.size, 1, none⟩) (by simp)).trans (by rw [World.cell?_alloc_lt, World.cell?_alloc_lt]; exact hv1; exact hzh; simp; omega)
            have q2 : w5.frozen? ⟨w3.heap.size, 0, none⟩ = false := (hb5.frozen (p := ⟨w3.heap.size, 0, none⟩) (by simp)).trans (by rw [World.frozen?_alloc_old, World.frozen?_alloc_old]; exact hg0; all_goals (simp; try omega))
            have q3 : w5.frozen? ⟨w3.heap.size, 1, none⟩ = false := (hb5.frozen (p := ⟨w3.heap.size, 1, none⟩) (by simp)).trans (by rw [World.frozen?_alloc_old, World.frozen?_alloc_old]; exact hg1; all_goals (simp; try omega))
            go_roundw
            case rel => exact ⟨k + 1, n + 1, _, ao2, cap2, a, b, by omega, by omega, by go_num, rfl, hown5, q0, q1, q2, q3, hp2, hh2, by omega, ((hbel.alloc (by omega) _).alloc (by simp; omega) _).trans (hb5.mono (by omega))⟩
            case measure => simp [intOf]; omega
          · have hp2 := pre_miss hlt hpre e1
            rcases Int.lt_or_le hi (loA L k) with e2 | e2
            · have hh2 := hull_behind hlt hhull e1 e2
              clear hpre hhull
              go_wp2_with fail
              go_roundw
              case rel => exact ⟨k + 1, n, M, ao', cap', a, b, by omega, by omega, by go_num, rfl, hown.alloc _, by rw [World.cell?_alloc_lt]; exact hv0; exact hzh, by rw [World.cell?_alloc_lt]; exact hv1; exact hzh, by rw [World.frozen?_alloc_old]; exact hg0; simp; omega, by rw [World.frozen?_alloc_old]; exact hg1; simp; omega, hp2, hh2, by simp; omega, hbel.alloc (by omega) _⟩
              case measure => simp [intOf]; omega
            · have hh2 := hull_in hlt hhull e1 e2
              clear hpre hhull
              go_wp2_with fail
              obtain ⟨q0, q1, q2, q3, q4⟩ := hull_world (u0 := .int .i64 (if loA L k < a then loA L k else a)) (u1 := .int .i64 (if b < hiA L k then hiA L k else b)) hv0 hv1 hg0 hg1 hzh (.cells #[.int .i64 (loA L k), .int .i64 (hiA L k)] 34)
              go_roundw
              case rel => exact ⟨k + 1, n, M, ao', cap', _, _, by omega, by omega, by go_num, rfl, ((hown.setBelow (by simp) _).setBelow (by simp) _).alloc _, q0, q1, q2, q3, hp2, hh2, q4, ((hbel.setCell (by simp) _).setCell (by simp) _).alloc (by simp; omega) _⟩
              case measure => simp [intOf]; omega
        · have hfp := hide (pre_end hlt hpre)
          have hfh := hide (hull_end hlt hhull)
          have hgoal : Hid (add L lo hi = (M ++ [(a, b)]) ++ postL hi (L.drop 0)) := by
            show _ = _
            rw [hpcs.out, hfp.out, hfh.out]; simp
          have hzh : w3.heap.size < wr.heap.size := by omega
          clear hpre hhull hfp hfh hpcs
          go_wp2_with (at_builtin; refine wp_app3 _ a b rfl _ _ rfl (w3.heap.size + 1) ao' cap' n M rfl (hown.alloc _) _ rfl (by simp [go_sem]) (by simp [go_sem]) (by omega) (by simp; omega) ?_; intro ao2 cap2 w5 hown5 hb5 hk5)
          have hbel5 := (hbel.alloc (by omega) _).trans (hb5.mono (by omega))
          have hz5 : w3.heap.size + 1 ≤ w5.heap.size := by have := hb5.size; simp at this; omega
          clear hb5 hk5 hv0 hv1 hg0 hg1 hown
          go_loopw [13, 16] (fun v i wr => ∃ (k n : Nat) (M : List (Int × Int)) (ao' : Option Addr) (cap' : Nat), k ≤ L.length ∧ n ≤ 1100 + k ∧ i = .int .i64 k ∧ v = .slice ao' n cap' ∧ Own wr (w3.heap.size + 1) ao' cap' n M ∧ Hid (add L lo hi = M ++ postL hi (L.drop k)) ∧ w3.heap.size + 1 ≤ wr.heap.size ∧ Below w3.heap.size w3 wr)
            (fun _ i _ => L.length - (intOf i).toNat)
          case atStart => exact ⟨0, n + 1, _, ao2, cap2, Nat.zero_le _, by omega, rfl, rfl, hown5, hgoal, hz5, hbel5⟩
          case round =>
            obtain ⟨k3, n3, M3, ao3, cap3, hk3, hnk3, rfl, rfl, hown3, he3, hz6, hbel3⟩ := hrel
            clear hgoal hown5 hbel5
            by_cases hlt3 : k3 < L.length
            · obtain ⟨b', off, rfl, hb', hc⟩ := hcell5 (by omega)
              obtain ⟨hc0, hc1⟩ := hc.get hbel3 hb' hlt3
              clear hcell5 hc
              rcases Int.lt_or_le hi (loA L k3) with e2 | e2
              · have hst := post_hit hlt3 he3 e2
                clear he3
                go_wp2_with (at_builtin; refine wp_app3 _ (loA L k3) (hiA L k3) rfl _ _ rfl (w3.heap.size + 1) ao3 cap3 n3 M3 rfl (hown3.alloc _) _ rfl (by simp [go_sem]) (by simp [go_sem]) (by omega) (by simp; omega) ?_; intro ao4 cap4 w7 hown7 hb7 hk7)
                have hz7 : w3.heap.size + 1 ≤ w7.heap.size := by have := hb7.size; simp at this; omega
                go_roundw
                case rel => exact ⟨k3 + 1, n3 + 1, _, ao4, cap4, by omega, by omega, by go_num, rfl, hown7, hst, hz7, (hbel3.alloc (by omega) _).trans (hb7.mono (by omega))⟩
                case measure => simp [intOf]; omega
              · have hst := post_miss hlt3 he3 e2
                clear he3
                go_wp2_with fail
                go_roundw
                case rel => exact ⟨k3 + 1, n3, _, ao3, cap3, by omega, by omega, by go_num, rfl, hown3, hst, hz6, hbel3⟩
                case measure => simp [intOf]; omega
            · have hfin := post_end hlt3 he3
              have f1 : eqL (add L lo hi) M3 = true := by rw [hfin]; simp [eqL]
              have hbox := (hbel3.cell (p := ⟨w2.heap.size, 0, none⟩) hz3).trans hbox3
              clear hcell5 he3 hfin
              go_wp2_with fail
              refine (eq_aeq _ _ (add L lo hi) M3 _ (hR3.below hbel3) hown3.sl).mono ?_
              rintro e w8 ⟨rfl, hb8⟩
              rw [f1]
              go_wp2_with fail
              go_ret
              exact ⟨rfl, (hb3'.trans (hbel3.mono hb3'.size)).trans (hb8.mono (Nat.le_trans hb3'.size hbel3.size))⟩

end Go.Proofs.Ymbrbh
