import Derived.Test.YmbrbjWFrom
import Derived.Test.YmbrbjWCnt
import Derived.Test.YmbrbjThyI8
import Derived.Deep.RegionWith
namespace Go.Proofs.Ymbrbj
open Go.RowKit

set_option maxHeartbeats 400000 in
theorem has_lcovered (v : Value) (L : List (Int × Int)) (x : Int) (w : World) (hs : Sl .i8 w v L) (hr : RL .i8 L) :
    Calls Ybjm.prog 27 #[v, .int .i64 x] w fun e w' => e = .returned (.bool (has L x)) ∧ w' = w := by
  obtain ⟨ao, cap, rfl, hl, hm, hcell⟩ := hs
  go_enter Ybjm.func27, Ybjm.ntmps27
  go_wp2
  go_loop [5] (fun i => ∃ k : Nat, k ≤ L.length ∧ i = .int .i64 k ∧ Hid (has L x = has (L.drop k) x)) (fun i => L.length - (intOf i).toNat)
  case atStart => exact ⟨0, Nat.zero_le _, rfl, rfl⟩
  case round =>
    obtain ⟨k, hk, rfl, he⟩ := hrel
    by_cases hlt : k < L.length
    · obtain ⟨b, off, rfl, hb, hc⟩ := hcell (by omega)
      obtain ⟨hc0, hc1⟩ := hc k hlt
      obtain ⟨⟨g1, g2⟩, g3, g4⟩ := hr.i8 hlt
      clear hc hcell
      by_cases h1 : loA L k ≤ x
      · by_cases h2 : x < hiA L k
        · go_wp2
          go_ret
          exact ⟨ret_bool (has_yes hlt he h1 h2).symm, rfl⟩
        · have hst := has_step hlt he (fun h => h2 h.2)
          go_wp2
          go_round
          case rel => exact ⟨k + 1, by omega, by go_num, hst⟩
          case measure => simp [intOf]; omega
      · have hst := has_step hlt he (fun h => h1 h.1)
        go_wp2
        go_round
        case rel => exact ⟨k + 1, by omega, by go_num, hst⟩
        case measure => simp [intOf]; omega
    · clear hcell
      go_wp2
      go_ret
      exact ⟨ret_bool (has_end (by omega) he).symm, rfl⟩

/-- What a round leaves of the call's own variable (block B): s holds the new set. -/
theorem lm_round {B : Nat} {w wr w2 : World} {va a2 : Option Addr} {vn vc n2 c2 : Nat} {T : List (Int × Int)} (hz : B + 1 ≤ wr.heap.size) (hb2 : Below wr.heap.size wr w2)
    (hcs : wr.cell? ⟨B, 0, none⟩ = some (.slice va vn vc)) (hfs : wr.frozen? ⟨B, 0, none⟩ = false)
    (hfr : Fr (B + 1) (.slice va vn vc)) (hsl2 : Sl .i64 w2 (.slice a2 n2 c2) T) (hnew : New wr.heap.size (.slice va vn vc) (.slice a2 n2 c2)) (hbel : Below B w wr) :
    (w2.setCell ⟨B, 0, none⟩ (.slice a2 n2 c2)).cell? ⟨B, 0, none⟩ = some (.slice a2 n2 c2) ∧ Sl .i64 (w2.setCell ⟨B, 0, none⟩ (.slice a2 n2 c2)) (.slice a2 n2 c2) T ∧ Fr (B + 1) (.slice a2 n2 c2) ∧
      (w2.setCell ⟨B, 0, none⟩ (.slice a2 n2 c2)).frozen? ⟨B, 0, none⟩ = false ∧ B + 1 ≤ (w2.setCell ⟨B, 0, none⟩ (.slice a2 n2 c2)).heap.size ∧ Below B w (w2.setCell ⟨B, 0, none⟩ (.slice a2 n2 c2)) := by
  have hc2 := (hb2.cell (p := ⟨B, 0, none⟩) (by simp; omega)).trans hcs
  have hf2 := (hb2.frozen (p := ⟨B, 0, none⟩) (by simp; omega)).trans hfs
  have hs2 := hb2.size
  have hF := hnew.fr hfr hz
  refine ⟨by simp [go_sem, hc2], hsl2.setCell hF (by simp) _, hF, by simp [go_sem, hf2], by simp [World.setCell]; omega, ?_⟩
  exact (hbel.trans (hb2.mono (by omega))).setCell (by simp) _

set_option maxHeartbeats 2000000 in
theorem walk_LMembers (v : Value) (L : List (Int × Int)) (w : World) (hs : Sl .i8 w v L) (hr : RL .i8 L) :
    Calls Ybjm.prog 12 #[v] w fun e w' => e = .returned (.bool true) ∧ Below w.heap.size w w' := by
  have hs' := hs
  obtain ⟨ao, cap, rfl, hl, hm, hcell⟩ := hs
  by_cases hbig : 1024 < L.length
  · clear hcell
    go_enter Ybjm.func12, Ybjm.ntmps12
    go_wp2
    go_ret
    exact ⟨rfl, Below.refl _ _⟩
  · have hinit := from_start (L := L)
    go_enter Ybjm.func12, Ybjm.ntmps12
    go_wp2
    go_loopw [4] (fun i wr => ∃ (k : Nat) (S : List (Int × Int)) (va : Option Addr) (vn vc : Nat), k ≤ L.length ∧ i = .int .i64 k ∧ S.length ≤ k ∧ wr.cell? ⟨w.heap.size, 0, none⟩ = some (.slice va vn vc) ∧ Sl .i64 wr (.slice va vn vc) S ∧ Fr (w.heap.size + 1) (.slice va vn vc) ∧
        wr.frozen? ⟨w.heap.size, 0, none⟩ = false ∧ w.heap.size + 1 ≤ wr.heap.size ∧ Hid (fromS L = addAll S (L.drop k)) ∧ Below w.heap.size w wr)
      (fun i _ => L.length - (intOf i).toNat)
    case atStart => exact ⟨0, [], none, 0, 0, Nat.zero_le _, rfl, Nat.le_refl _, by simp [go_sem], Sl.nil _ _, Fr.nil _, by simp [go_sem], by simp, hinit, (Below.refl _ _).alloc (Nat.le_refl _) _⟩
    case round =>
      obtain ⟨k, S, va, vn, vc, hk, rfl, hSk, hcs, hsl, hfr, hfs, hz, he, hbel⟩ := hrel
      clear hinit
      by_cases hlt : k < L.length
      · obtain ⟨b, off, rfl, hb, hc⟩ := hcell (by omega)
        obtain ⟨hc0, hc1⟩ := hc.get hbel hb hlt
        obtain ⟨⟨g1, g2⟩, g3, g4⟩ := hr.i8 hlt
        have hst := from_step hlt he
        have hln := add_length S (loA L k) (hiA L k)
        have t1 : IntKind.i64.wrap (loA L k) = loA L k := by rw [IntKind.wrap_i64]; go_num
        have t2 : IntKind.i64.wrap (hiA L k) = hiA L k := by rw [IntKind.wrap_i64]; go_num
        clear hcell hc he hs' hr
        go_wp2
        go_region_with (go_at_call 18; refine (add_any _ S (loA L k) (hiA L k) _ (by exact hsl) (by omega)).mono ?_; rintro e w2 ⟨v2, rfl, hsl2, hnew2, hb2⟩; obtain ⟨a2, n2, c2, hv2⟩ := hsl2.shape; subst hv2; have hc2 := (hb2.cell (p := ⟨w.heap.size, 0, none⟩) (by simp; omega)).trans hcs; have hf2 := (hb2.frozen (p := ⟨w.heap.size, 0, none⟩) (by simp; omega)).trans hfs)
        all_goals
          have R := lm_round hz (Below.undrew hb2) hcs hfs hfr hsl2 hnew2 hbel
          clear hb2 hcs hfs hfr hsl2 hnew2 hbel hc2 hf2
          go_wp2
          go_roundw
          case rel => exact ⟨k + 1, _, a2, n2, c2, by omega, by go_num, by omega, R.1, R.2.1, R.2.2.1, R.2.2.2.1, R.2.2.2.2.1, hst, R.2.2.2.2.2⟩
          case measure => simp [intOf]; omega
      · have hfin := from_end (by omega) he
        have hsm := small_of hr
        have hcS := fromS_canon L
        have hhS := hide (fromS_has L)
        rw [hfin] at hsm hcS hhS
        have hL := hs'.below hbel
        have hcu := hide (hsm.rl.cnt_u64 hcS)
        clear hcell hfin he hs'
        go_wp2_with fail
        go_loop [5, 6] (fun t i => ∃ (n : Nat) (T : Int), n ≤ 256 ∧ i = .int .i64 (-128 + n) ∧ t = .int .u64 T ∧ 0 ≤ T ∧ T ≤ n ∧ Hid (rank S (-128 + n) = T)) (fun _ i => 256 - (intOf i + 128).toNat)
        case atStart => exact ⟨0, 0, by omega, rfl, rfl, by omega, by omega, hsm.low⟩
        case round =>
          obtain ⟨n, T, hn, rfl, rfl, hT0, hT1, he⟩ := hrel
          by_cases hlt : n < 256
          · have hst := rank_succ (x := -128 + (n : Int)) hsm.can
            rw [hhS.out, he.out] at hst
            go_wp2_with fail
            refine (has_lcovered _ L (-128 + (n : Int)) _ hL hr).mono ?_
            rintro e w3 ⟨rfl, rfl⟩
            cases hx : has L (-128 + (n : Int))
            · rw [hx] at hst
              have hst' : Hid (rank S (-128 + ((n + 1 : Nat) : Int)) = T) := by
                show _ = _
                rw [show (-128 + ((n + 1 : Nat) : Int)) = -128 + (n : Int) + 1 by omega, hst]; simp
              go_wp2_with fail
              go_round
              case rel => exact ⟨n + 1, T, by omega, by go_num, rfl, hT0, by omega, hst'⟩
              case measure => simp [intOf]; omega
            · rw [hx] at hst
              have hst' : Hid (rank S (-128 + ((n + 1 : Nat) : Int)) = T + 1) := by
                show _ = _
                rw [show (-128 + ((n + 1 : Nat) : Int)) = -128 + (n : Int) + 1 by omega, hst]; simp
              go_wp2_with fail
              go_round
              case rel => exact ⟨n + 1, T + 1, by omega, by go_num, by go_num, by omega, by omega, hst'⟩
              case measure => simp [intOf]; omega
          · obtain rfl : n = 256 := by omega
            have htop := hsm.top (-128 + (256 : Nat)) (by omega)
            have hT : u64 (cnt S) = T := by rw [hcu.out, ← htop]; exact he.out
            clear htop he
            go_wp2_with fail
            refine (count_any _ S _ hsl hsm.rl).mono ?_
            rintro e w3 ⟨rfl, hb3⟩
            rw [hT]
            go_wp2_with fail
            go_ret
            exact ⟨ret_bool (by simp), hbel.trans (hb3.mono hbel.size)⟩

end Go.Proofs.Ymbrbj
