import Derived.Test.YmbrbjWFrom
import Derived.Test.YmbrbjWInside
import Derived.Test.YmbrbjField
import Derived.Deep.RegionWith
namespace Go.Proofs.Ymbrbj
open Go.RowKit

set_option maxHeartbeats 4000000 in
theorem walk_ICanonical (v : Value) (L : List (Int × Int)) (w : World) (hs : Sl .i64 w v L) (_ : RL .i64 L) :
    Calls Ybjm.prog 4 #[v] w fun e w' => e = .returned (.bool true) ∧ Below w.heap.size w w' := by
  have hs' := hs
  obtain ⟨ao, cap, rfl, hl, hm, hcell⟩ := hs
  by_cases hbig : 1024 < L.length
  · clear hcell
    go_enter Ybjm.func4, Ybjm.ntmps4
    go_wp2
    go_ret
    exact ⟨rfl, Below.refl _ _⟩
  · have hcan := fromS_canon L
    have hHI : Hid (∀ k, k < L.length → loA L k < hiA L k → insideL (fromS L) (loA L k) (hiA L k) = true) := by
      intro k hk hlt
      obtain ⟨h, hh⟩ := can_ex (fromS_canon L)
      refine inside_of hh hlt fun x a b => ?_
      rw [fromS_has, has_iff]
      exact ⟨_, pair_mem hk, a, b⟩
    have HCI := hide ((canon_iff (fromS L)).1 hcan)
    have hfield := run_spans
    clear hcan
    go_enter Ybjm.func4, Ybjm.ntmps4
    go_wp2_with fail
    refine (from_any _ L _ hs' (by omega)).mono ?_
    rintro e w1 ⟨v1, rfl, hsl1, _, hb1⟩
    generalize fromS L = U at *
    have hU1 := hsl1
    obtain ⟨a7, c7, rfl, hl7, hm7, hcell7⟩ := hsl1
    go_wp2_with fail
    go_loopw [4] (fun i wr => ∃ k : Nat, k ≤ U.length ∧ i = .int .i64 k ∧ Below w1.heap.size w1 wr) (fun i _ => U.length - (intOf i).toNat)
    case atStart => exact ⟨0, Nat.zero_le _, rfl, Below.refl _ _⟩
    case round =>
      obtain ⟨k, hk, rfl, hbel⟩ := hrel
      by_cases hlt : k < U.length
      · obtain ⟨b, off, rfl, hb, hc⟩ := hcell7 (by omega)
        obtain ⟨hc0, hc1⟩ := hc.get hbel hb hlt
        obtain ⟨h1, h2⟩ := HCI.out k hlt
        by_cases h0 : k = 0
        · subst h0
          simp only [Nat.zero_mul, Nat.add_zero] at hc0 hc1
          clear hc hcell7 h2 hcell
          go_wp2
          go_quiet (fail)
          go_wp2
          go_quiet (fail)
          go_wp2
          go_roundw
          case rel => exact ⟨0 + 1, by omega, by go_num, (by first | exact below_drewN hbel _ | exact below_drewN (below_drewN hbel _) _)⟩
          case measure => simp [intOf]; omega
        · obtain ⟨k', rfl⟩ : ∃ k', k = k' + 1 := ⟨k - 1, by omega⟩
          have hk0 : decide ((0 : Int) < ((k' + 1 : Nat) : Int)) = true := by simp <;> omega
          have hcp := (hc.get hbel hb (show k' < U.length by omega)).2
          have h3 : hiA U k' < loA U (k' + 1) := by simpa using h2 (by omega)
          clear hc hcell7 h2 hcell
          go_wp2
          go_quiet (fail)
          go_wp2
          go_quiet (fail)
          go_wp2
          go_roundw
          case rel => exact ⟨k' + 1 + 1, by omega, by go_num, (by first | exact below_drewN hbel _ | exact below_drewN (below_drewN hbel _) _)⟩
          case measure => simp [intOf]; omega
      · clear hcell7
        obtain ⟨wo, hwo⟩ : ∃ wo : World, wo = wr := ⟨_, rfl⟩
        subst hwo
        go_wp2_with fail
        go_loopw [5] (fun i wr => ∃ j : Nat, j ≤ L.length ∧ i = .int .i64 j ∧ Below w1.heap.size w1 wr) (fun i _ => L.length - (intOf i).toNat)
        case atStart => exact ⟨0, Nat.zero_le _, rfl, hbel⟩
        case round =>
          obtain ⟨j, hj, rfl, hbel2⟩ := hrel
          by_cases hlt2 : j < L.length
          · obtain ⟨b, off, rfl, hb, hc⟩ := hcell (by omega)
            obtain ⟨hc0, hc1⟩ := hc.get (hb1.trans (hbel2.mono hb1.size)) hb hlt2
            clear hc hcell
            rcases Int.lt_or_le (loA L j) (hiA L j) with h1 | h1
            · have f1 := hHI.out j hlt2 h1
              have hU2 := hU1.below hbel2
              go_wp2_with fail
              go_region_with (go_at_call 17; refine (inside_any _ U (loA L j) (hiA L j) _ (by exact hU2)).mono ?_; rintro e w6 ⟨rfl, hb6⟩; rw [f1])
              all_goals
                have hb6' := Below.undrew hb6
                go_wp2
                go_roundw
                case rel => exact ⟨j + 1, by omega, by go_num, hbel2.trans (hb6'.mono hbel2.size)⟩
                case measure => simp [intOf]; omega
            · have hd : decide (loA L j < hiA L j) = false := decide_eq_false (by omega)
              go_wp2
              go_quiet (fail)
              go_wp2
              go_roundw
              case rel => exact ⟨j + 1, by omega, by go_num, below_drewN hbel2 _⟩
              case measure => simp [intOf]; omega
          · clear hcell
            go_wp2_with fail
            go_ret
            exact ⟨rfl, hb1.trans (hbel2.mono hb1.size)⟩

end Go.Proofs.Ymbrbj
