import Derived.Test.YmbrbiWFrom
import Derived.Test.YmbrbiWCnt
import Derived.Test.YmbrbiWHas
import Derived.Test.YmbrbiThyI8
import Derived.Test.YmbrbiLCopy
import Derived.Test.YmbrbiOwn4
import Derived.Deep.RegionWith
namespace Go.Proofs.Ymbrbi
open Go.RowKit

def mnx (v x : Int) : Int := if v < x then v else x
theorem fc_start {S : List (Int × Int)} (h : Small S) (x : Int) : Hid (rank S (mnx (-128 + ((0 : Nat) : Int)) x) = 0) := by
  show _ = _
  unfold mnx
  split
  · exact h.low' _ (by omega)
  · exact h.low' _ (by omega)
theorem fc_step {S L : List (Int × Int)} (h : Small S) (hh : Hid (∀ y, has S y = has L y)) {x T : Int} {n : Nat} (he : Hid (rank S (mnx (-128 + n) x) = T)) (hx : -128 + (n : Int) < x) {c : Bool} (hc : has L (-128 + n) = c) : Hid (rank S (mnx (-128 + ((n + 1 : Nat) : Int)) x) = T + if c = true then 1 else 0) := by
  have h1 : mnx (-128 + (n : Int)) x = -128 + n := if_pos hx
  have h2 : mnx (-128 + ((n + 1 : Nat) : Int)) x = -128 + (n : Int) + 1 := by unfold mnx; split <;> omega
  have := he.out
  rw [h1] at this
  show _ = _
  rw [h2, rank_succ h.can, this, hh.out, hc]
theorem fc_skip {S : List (Int × Int)} {x T : Int} {n : Nat} (he : Hid (rank S (mnx (-128 + n) x) = T)) (hx : x ≤ -128 + (n : Int)) : Hid (rank S (mnx (-128 + ((n + 1 : Nat) : Int)) x) = T) := by
  have h1 : mnx (-128 + (n : Int)) x = x := if_neg (by omega)
  have h2 : mnx (-128 + ((n + 1 : Nat) : Int)) x = x := if_neg (by omega)
  have := he.out
  rw [h1] at this
  show _ = _
  rw [h2, this]
theorem fc_end {S : List (Int × Int)} (h : Small S) {x T : Int} {n : Nat} (hn : n = 256) (he : Hid (rank S (mnx (-128 + n) x) = T)) : rank S x = T := by
  have := he.out
  unfold mnx at this
  split at this
  · rw [h.top x (by omega), ← h.top (-128 + (n : Int)) (by omega)]; exact this
  · exact this

set_option maxHeartbeats 2000000 in
theorem walk_FCount (v : Value) (L : List (Int × Int)) (x : Int) (w : World) (hs : Sl .i8 w v L) (hr : RL .i8 L) (w1 : (Lit.int .i64 x).wf = true) :
    Calls Ybim.prog 6 #[v, .int .i64 x] w fun e w' => e = .returned (.bool true) ∧ Below w.heap.size w w' := by
  obtain ⟨x0, x1⟩ := bounds_i64 w1
  clear w1
  obtain ⟨ao, cap, rfl, hl, hm, hcell⟩ := hs
  by_cases hbig : 1024 < L.length
  · clear hcell
    go_enter Ybim.func6, Ybim.ntmps6
    go_wp2
    go_ret
    exact ⟨rfl, Below.refl _ _⟩
  · go_enter Ybim.func6, Ybim.ntmps6
    go_wp2_with (at_make; refine wp_mkN _ w.heap.size rfl rfl _ _ rfl L.length rfl rfl (by omega) ?_; intro w1 hown1 hb1)
    go_loopw [6] (fun i wr => ∃ (k : Nat) (M : List (Int × Int)), k ≤ L.length ∧ i = .int .i64 k ∧ Own wr w.heap.size (some ⟨w.heap.size, 0, none⟩) L.length L.length M ∧ Copied L k M ∧ Below w.heap.size w wr)
      (fun i _ => L.length - (intOf i).toNat)
    case atStart => exact ⟨0, _, Nat.zero_le _, rfl, hown1, copied_start (by simp), hb1⟩
    case round =>
      obtain ⟨k, M, hk, rfl, hown, hcp, hbel⟩ := hrel
      clear hown1 hb1
      by_cases hlt : k < L.length
      · obtain ⟨b, off, rfl, hb, hc⟩ := hcell (by omega)
        obtain ⟨hc0, hc1⟩ := hc.get hbel hb hlt
        obtain ⟨⟨g1, g2⟩, g3, g4⟩ := hr.i8 hlt
        have hst := copied_step hcp hlt
        have e0 := hown.lo (k := k) hlt
        have e1 := hown.hi (k := k) hlt
        have y0 := hown.froz (k * 2)
        have y1 := hown.froz (k * 2 + 1)
        have hown2 := hown.drew.store (k := k) hlt (loA L k) (hiA L k)
        have hb2 : Below w.heap.size w ((wr.drew.setCell ⟨w.heap.size, k * 2, none⟩ (.int .i64 (loA L k))).setCell ⟨w.heap.size, k * 2 + 1, none⟩ (.int .i64 (hiA L k))) := (hbel.drew.setCell (by simp) _).setCell (by simp) _
        have hzb := hown.base_le
        have t1 : IntKind.i64.wrap (loA L k) = loA L k := by rw [IntKind.wrap_i64]; go_num
        have t2 : IntKind.i64.wrap (hiA L k) = hiA L k := by rw [IntKind.wrap_i64]; go_num
        clear hcell hc hown hcp hr
        go_wp2_with fail
        go_region
        all_goals
          go_wp2_with fail
          go_roundw
          case rel => exact ⟨k + 1, _, by omega, by go_num, hown2, hst, hb2⟩
          case measure => simp [intOf]; omega
      · have hML := copied_end hcp (by omega)
        subst hML
        have hsm := small_of hr
        have hcS := fromS_canon M
        have hhS := hide (fromS_has M)
        have hru := hide (hsm.rl.rank_u64 hcS x)
        have hsl := hown.sl
        clear hcell hcp
        go_wp2_with fail
        go_loop [7, 8] (fun t i => ∃ (n : Nat) (T : Int), n ≤ 256 ∧ i = .int .i64 (-128 + n) ∧ t = .int .u64 T ∧ 0 ≤ T ∧ T ≤ n ∧ Hid (rank (fromS M) (mnx (-128 + n) x) = T)) (fun _ i => 256 - (intOf i + 128).toNat)
        case atStart => exact ⟨0, 0, by omega, rfl, rfl, by omega, by omega, fc_start hsm x⟩
        case round =>
          obtain ⟨n, T, hn, rfl, rfl, hT0, hT1, he⟩ := hrel
          by_cases hlt : n < 256
          · rcases Int.lt_or_le (-128 + (n : Int)) x with hx | hx
            · cases hc : has M (-128 + (n : Int))
              · have hst := fc_step hsm hhS he hx hc
                simp only [Bool.false_eq_true, if_false, Int.add_zero] at hst
                go_wp2_with fail
                refine (has_fin _ M (-128 + (n : Int)) _ hsl).mono ?_
                rintro e w3 ⟨rfl, rfl⟩
                rw [hc]
                go_wp2_with fail
                go_round
                case rel => exact ⟨n + 1, T, by omega, by go_num, rfl, hT0, by omega, hst⟩
                case measure => simp [intOf]; omega
              · have hst := fc_step hsm hhS he hx hc
                simp only [if_true] at hst
                go_wp2_with fail
                refine (has_fin _ M (-128 + (n : Int)) _ hsl).mono ?_
                rintro e w3 ⟨rfl, rfl⟩
                rw [hc]
                go_wp2_with fail
                go_round
                case rel => exact ⟨n + 1, T + 1, by omega, by go_num, by go_num, by omega, by omega, hst⟩
                case measure => simp [intOf]; omega
            · have hst := fc_skip he hx
              go_wp2_with fail
              go_round
              case rel => exact ⟨n + 1, T, by omega, by go_num, rfl, hT0, by omega, hst⟩
              case measure => simp [intOf]; omega
          · have hT := fc_end hsm (by omega) he
            have hT' : u64 (rank (fromS M) x) = T := hru.out.trans hT
            obtain rfl : n = 256 := by omega
            clear he hru hT
            go_wp2_with fail
            refine (from_any _ M _ hsl (by omega)).mono ?_
            rintro e w3 ⟨v3, rfl, hsl3, _, hb3⟩
            go_wp2_with fail
            refine (rank_any _ (fromS M) x _ hsl3 hsm.rl x1).mono ?_
            rintro e w4 ⟨rfl, hb4⟩
            rw [hT']
            have hB3 := hbel.trans (hb3.mono hbel.size)
            go_wp2_with fail
            go_ret
            exact ⟨ret_bool (by simp), hB3.trans (hb4.mono hB3.size)⟩

end Go.Proofs.Ymbrbi
