import Derived.Test.YmbrbhWFrom
import Derived.Test.YmbrbhLCut
import Derived.Test.YmbrbhThy
namespace Go.Proofs.Ymbrbh
open Go.RowKit

set_option maxHeartbeats 1000000 in
theorem walk_DLeast (v : Value) (L : List (Int × Int)) (x : Int) (w : World) (hs : Sl .i64 w v L) (_ : RL .i64 L) (_ : (Lit.int .i64 x).wf = true) :
    Calls Ybhm.prog 12 #[v, .int .i64 x] w fun e w' => e = .returned (.bool true) ∧ Below w.heap.size w w' := by
  have hs' := hs
  obtain ⟨ao, cap, rfl, hl, hm, hcell⟩ := hs
  clear hcell
  by_cases hbig : 1024 < L.length
  · go_enter Ybhm.func12, Ybhm.ntmps12
    go_wp2
    go_ret
    exact ⟨rfl, Below.refl _ _⟩
  · have hlen := fromS_length L
    have hcan := fromS_canon L
    go_enter Ybhm.func12, Ybhm.ntmps12
    go_wp2_with fail
    refine (from_any _ L _ hs' (by omega)).mono ?_
    rintro e w1 ⟨v1, rfl, hsl1, _, hb1⟩
    generalize fromS L = S at *
    have hS1 := hsl1
    obtain ⟨a1, c1, rfl, hl1, hm1, hcell1⟩ := hsl1
    go_wp2_with fail
    have hbW := hb1.alloc hb1.size (.cells #[.slice a1 S.length c1] 27)
    go_loop [6] (fun t => ∃ k : Nat, k ≤ S.length ∧ t = .int .i64 k ∧ Hid (0 < k → hiA S (k - 1) ≤ x)) (fun t => S.length - (intOf t).toNat)
    case atStart => exact ⟨0, Nat.zero_le _, rfl, (show _ → _ from fun h => by omega)⟩
    case round =>
      obtain ⟨k, hk, rfl, hpr⟩ := hrel
      by_cases hlt : k < S.length
      · obtain ⟨b, off, rfl, hb, hc⟩ := hcell1 (by omega)
        obtain ⟨hc0, hc2⟩ := hc k hlt
        have hx := hc2
        rcases Int.lt_or_le x (hiA S k) with h1 | h1
        · have hcut : Hid (Cut S x k) := ⟨hk, fun _ => h1, hpr.out⟩
          clear hcell1 hc hpr
          go_wp2_with fail
          refine (search_any _ S x _ (hS1.alloc _)).mono ?_
          rintro e w2 ⟨i, rfl, hcut2, hb2⟩
          obtain rfl : i = k := cut_one hcan hcut2.out hcut.out
          go_wp2_with fail
          go_ret
          exact ⟨ret_bool (by simp), hbW.trans (hb2.mono hbW.size)⟩
        · clear hcell1 hc hpr
          go_wp2_with fail
          go_round
          case rel => exact ⟨k + 1, by omega, by go_num, (show _ → _ from fun _ => by simpa using h1)⟩
          case measure => simp [intOf]; omega
      · have hcut : Hid (Cut S x k) := ⟨hk, fun h => absurd h hlt, hpr.out⟩
        clear hcell1 hpr
        go_wp2_with fail
        refine (search_any _ S x _ (hS1.alloc _)).mono ?_
        rintro e w2 ⟨i, rfl, hcut2, hb2⟩
        obtain rfl : i = k := cut_one hcan hcut2.out hcut.out
        go_wp2_with fail
        go_ret
        exact ⟨ret_bool (by simp), hbW.trans (hb2.mono hbW.size)⟩

end Go.Proofs.Ymbrbh
