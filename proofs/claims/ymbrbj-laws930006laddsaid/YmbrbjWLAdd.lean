import Derived.Test.YmbrbjWFrom
import Derived.Test.YmbrbjWCnt
import Derived.Test.YmbrbjThyCnt2
import Derived.Deep.RegionWith
import Derived.Deep.DeepCutAuto
namespace Go.Proofs.Ymbrbj
open Go.RowKit

def AlrOk (W : World) (x : Int) (u : Value) (wc : World) : Prop := u = .int .u64 x ∧ Below W.heap.size W wc

theorem ladd_eq {cT cS rh rl lo hi : Int} (h : cT = cS + (hi - lo) - (rh - rl)) : u64 cT = IntKind.u64.wrap (IntKind.u64.wrap (u64 cS + IntKind.u64.wrap (IntKind.u64.wrap hi - IntKind.u64.wrap lo)) - IntKind.u64.wrap (u64 rh - u64 rl)) := by
  subst h
  simp only [IntKind.wrap_u64, u64]
  omega

set_option maxHeartbeats 4000000 in
/-- From where lo and hi are in order. -/
theorem walk_LAdd (v : Value) (L : List (Int × Int)) (a b : Int) (w : World) (hs : Sl .i64 w v L) (hr : RL .i64 L) (w1 : (Lit.int .i64 a).wf = true) (w2 : (Lit.int .i64 b).wf = true) :
    Calls Ybjm.prog 13 #[v, .int .i64 a, .int .i64 b] w fun e w' => e = .returned (.bool true) ∧ Below w.heap.size w w' := by
  have hs' := hs
  obtain ⟨ao, cap, rfl, hl, hm, hcell⟩ := hs
  clear hcell
  by_cases hbig : 1024 < L.length
  · go_enter Ybjm.func13, Ybjm.ntmps13
    go_wp2
    go_ret
    exact ⟨rfl, Below.refl _ _⟩
  · have hrS := fromS_RL hr
    have hcS := fromS_canon L
    have hlen := fromS_length L
    have hbS : (fromS L).length ≤ 100000 := by omega
    rcases Int.lt_or_le b a with hab | hab
    · have hT : RL .i64 (add (fromS L) b a) := add_all (P := fun x => (Lit.int .i64 x).wf = true) hrS w2 w1
      have hlaw := hide (ladd_eq (cnt_add hrS hcS (Int.le_of_lt hab) w2 w1))
      have u1 := (bounds_i64 w1).2
      have u2 := (bounds_i64 w2).2
      clear w1 w2
      go_enter Ybjm.func13, Ybjm.ntmps13
      go_wp2_with fail
      refine (from_any _ L _ hs' (by omega)).mono ?_
      rintro e w1 ⟨v1, rfl, hsl1, _, hb1⟩
      generalize fromS L = S at *
      obtain ⟨a1, n1, c1, hv1⟩ := hsl1.shape
      subst hv1
      go_wp2_with fail
      have hX : (w1.alloc (.cells #[.slice a1 n1 c1] 24)).cell? ⟨w1.heap.size, 0, none⟩ = some (.slice a1 n1 c1) := by simp [go_sem]
      have hS := hsl1.alloc (.cells #[.slice a1 n1 c1] 24)
      have hBW := hb1.alloc hb1.size (.cells #[.slice a1 n1 c1] 24)
      have hzW : w1.heap.size < (w1.alloc (.cells #[.slice a1 n1 c1] 24)).heap.size := by simp
      generalize w1.alloc (.cells #[.slice a1 n1 c1] 24) = W at *
      clear hsl1 hb1
      go_cut [11] (fun u wc => AlrOk W (IntKind.u64.wrap (u64 (rank S a) - u64 (rank S b))) u wc)
      case first =>
        have tok1 : True := trivial
        go_region_with (first | (go_at_call 23; have _t := tok1; refine (rank_any _ S a _ (by exact hS) hrS u1).mono ?_; rintro e w3 ⟨rfl, hb3⟩; clear tok1; have hb3' := Below.undrew hb3; have hx3 := (hb3'.cell (p := ⟨w1.heap.size, 0, none⟩) hzW).trans hX; have hS3 := hS.below hb3') | (go_at_call 23; refine (rank_any _ S b _ (by exact hS3) hrS u2).mono ?_; rintro e w4 ⟨rfl, hb4⟩))
        all_goals
          go_wp2_with fail
          go_meet
          case rel => exact ⟨rfl, hb3'.trans (hb4.mono hb3'.size)⟩
      case rest =>
        obtain ⟨hu, hbc⟩ := hcut
        subst hu
        have hXc := (hbc.cell (p := ⟨w1.heap.size, 0, none⟩) hzW).trans hX
        have hSc := hS.below hbc
        have hBc := hBW.trans (hbc.mono hBW.size)
        have hzc : w1.heap.size < wc.heap.size := Nat.lt_of_lt_of_le hzW hbc.size
        clear hX hS hBW hbc hzW
        have tok1 : True := trivial
        go_wp2_with fail
        go_region_with (first | (go_at_call 18; refine (add_any _ S b a _ (by exact hSc) hbS).mono ?_; rintro e w5 ⟨v5, rfl, hsl5, _, hb5⟩; obtain ⟨a5, n5, c5, hv5⟩ := hsl5.shape; subst hv5; have hb5' := Below.undrew hb5; have hx5 := (hb5'.cell (p := ⟨w1.heap.size, 0, none⟩) hzc).trans hXc; have hS5 := hSc.below hb5'; have hz5 := Nat.lt_of_lt_of_le hzc hb5'.size) | (go_at_call 22; have _t := tok1; refine (count_any _ (add S b a) _ (by exact hsl5) hT).mono ?_; rintro e w6 ⟨rfl, hb6⟩; clear tok1; have hx6 := (hb6.cell (p := ⟨w1.heap.size, 0, none⟩) hz5).trans hx5; have hS6 := hS5.below hb6) | (go_at_call 22; refine (count_any _ S _ (by exact hS6) hrS).mono ?_; rintro e w7 ⟨rfl, hb7⟩))
        all_goals
          have hB7 := ((hBc.trans (hb5'.mono hBc.size)).trans (hb6.mono (Nat.le_trans hBc.size hb5'.size))).trans (hb7.mono (Nat.le_trans (Nat.le_trans hBc.size hb5'.size) hb6.size))
          go_wp2
          go_ret
          exact ⟨ret_bool (by rw [hlaw.out]; simp), hB7⟩
    · have hT : RL .i64 (add (fromS L) a b) := add_all (P := fun x => (Lit.int .i64 x).wf = true) hrS w1 w2
      have hlaw := hide (ladd_eq (cnt_add hrS hcS hab w1 w2))
      have u1 := (bounds_i64 w2).2
      have u2 := (bounds_i64 w1).2
      clear w1 w2
      go_enter Ybjm.func13, Ybjm.ntmps13
      go_wp2_with fail
      refine (from_any _ L _ hs' (by omega)).mono ?_
      rintro e w1 ⟨v1, rfl, hsl1, _, hb1⟩
      generalize fromS L = S at *
      obtain ⟨a1, n1, c1, hv1⟩ := hsl1.shape
      subst hv1
      go_wp2_with fail
      have hX : (w1.alloc (.cells #[.slice a1 n1 c1] 24)).cell? ⟨w1.heap.size, 0, none⟩ = some (.slice a1 n1 c1) := by simp [go_sem]
      have hS := hsl1.alloc (.cells #[.slice a1 n1 c1] 24)
      have hBW := hb1.alloc hb1.size (.cells #[.slice a1 n1 c1] 24)
      have hzW : w1.heap.size < (w1.alloc (.cells #[.slice a1 n1 c1] 24)).heap.size := by simp
      generalize w1.alloc (.cells #[.slice a1 n1 c1] 24) = W at *
      clear hsl1 hb1
      go_cut [11] (fun u wc => AlrOk W (IntKind.u64.wrap (u64 (rank S b) - u64 (rank S a))) u wc)
      case first =>
        have tok1 : True := trivial
        go_region_with (first | (go_at_call 23; have _t := tok1; refine (rank_any _ S b _ (by exact hS) hrS u1).mono ?_; rintro e w3 ⟨rfl, hb3⟩; clear tok1; have hb3' := Below.undrew hb3; have hx3 := (hb3'.cell (p := ⟨w1.heap.size, 0, none⟩) hzW).trans hX; have hS3 := hS.below hb3') | (go_at_call 23; refine (rank_any _ S a _ (by exact hS3) hrS u2).mono ?_; rintro e w4 ⟨rfl, hb4⟩))
        all_goals
          go_wp2_with fail
          go_meet
          case rel => exact ⟨rfl, hb3'.trans (hb4.mono hb3'.size)⟩
      case rest =>
        obtain ⟨hu, hbc⟩ := hcut
        subst hu
        have hXc := (hbc.cell (p := ⟨w1.heap.size, 0, none⟩) hzW).trans hX
        have hSc := hS.below hbc
        have hBc := hBW.trans (hbc.mono hBW.size)
        have hzc : w1.heap.size < wc.heap.size := Nat.lt_of_lt_of_le hzW hbc.size
        clear hX hS hBW hbc hzW
        have tok1 : True := trivial
        go_wp2_with fail
        go_region_with (first | (go_at_call 18; refine (add_any _ S a b _ (by exact hSc) hbS).mono ?_; rintro e w5 ⟨v5, rfl, hsl5, _, hb5⟩; obtain ⟨a5, n5, c5, hv5⟩ := hsl5.shape; subst hv5; have hb5' := Below.undrew hb5; have hx5 := (hb5'.cell (p := ⟨w1.heap.size, 0, none⟩) hzc).trans hXc; have hS5 := hSc.below hb5'; have hz5 := Nat.lt_of_lt_of_le hzc hb5'.size) | (go_at_call 22; have _t := tok1; refine (count_any _ (add S a b) _ (by exact hsl5) hT).mono ?_; rintro e w6 ⟨rfl, hb6⟩; clear tok1; have hx6 := (hb6.cell (p := ⟨w1.heap.size, 0, none⟩) hz5).trans hx5; have hS6 := hS5.below hb6) | (go_at_call 22; refine (count_any _ S _ (by exact hS6) hrS).mono ?_; rintro e w7 ⟨rfl, hb7⟩))
        all_goals
          have hB7 := ((hBc.trans (hb5'.mono hBc.size)).trans (hb6.mono (Nat.le_trans hBc.size hb5'.size))).trans (hb7.mono (Nat.le_trans (Nat.le_trans hBc.size hb5'.size) hb6.size))
          go_wp2
          go_ret
          exact ⟨ret_bool (by rw [hlaw.out]; simp), hB7⟩

end Go.Proofs.Ymbrbj
