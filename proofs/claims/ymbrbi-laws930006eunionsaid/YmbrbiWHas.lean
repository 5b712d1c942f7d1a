import Derived.Test.YmbrbiProg
import Derived.Test.YmbrbiPlain
namespace Go.Proofs.Ymbrbi
open Go.RowKit

set_option maxHeartbeats 400000 in
theorem has_ein (v : Value) (L : List (Int × Int)) (x : Int) (w : World) (hs : Sl .i64 w v L) :
    Calls Ybim.prog 18 #[v, .int .i64 x] w fun e w' => e = .returned (.bool (has L x)) ∧ w' = w := by
  obtain ⟨ao, cap, rfl, hl, hm, hcell⟩ := hs
  go_enter Ybim.func18, Ybim.ntmps18
  go_wp2
  go_loop [5] (fun i => ∃ k : Nat, k ≤ L.length ∧ i = .int .i64 k ∧ Hid (has L x = has (L.drop k) x)) (fun i => L.length - (intOf i).toNat)
  case atStart => exact ⟨0, Nat.zero_le _, rfl, rfl⟩
  case round =>
    obtain ⟨k, hk, rfl, he⟩ := hrel
    by_cases hlt : k < L.length
    · obtain ⟨b, off, rfl, hb, hc⟩ := hcell (by omega)
      obtain ⟨hc0, hc1⟩ := hc k hlt
      clear hc hcell
      by_cases h1 : loA L k ≤ x
      · by_cases h2 : x < hiA L k
        · go_wp2
          go_ret
          exact ⟨ret_bool (has_yes hlt he h1 h2).symm, rfl⟩
        · have hst := has_step hlt he (fun h => h2 h.2)
          go_wp2
          go_round
          case rel => exact ⟨k + 1, by omega, by go_num, hst⟩
          case measure => simp [intOf]; omega
      · have hst := has_step hlt he (fun h => h1 h.1)
        go_wp2
        go_round
        case rel => exact ⟨k + 1, by omega, by go_num, hst⟩
        case measure => simp [intOf]; omega
    · clear hcell
      go_wp2
      go_ret
      exact ⟨ret_bool (has_end (by omega) he).symm, rfl⟩
set_option maxHeartbeats 400000 in
theorem has_fin (v : Value) (L : List (Int × Int)) (x : Int) (w : World) (hs : Sl .i64 w v L) :
    Calls Ybim.prog 19 #[v, .int .i64 x] w fun e w' => e = .returned (.bool (has L x)) ∧ w' = w := by
  obtain ⟨ao, cap, rfl, hl, hm, hcell⟩ := hs
  go_enter Ybim.func19, Ybim.ntmps19
  go_wp2
  go_loop [5] (fun i => ∃ k : Nat, k ≤ L.length ∧ i = .int .i64 k ∧ Hid (has L x = has (L.drop k) x)) (fun i => L.length - (intOf i).toNat)
  case atStart => exact ⟨0, Nat.zero_le _, rfl, rfl⟩
  case round =>
    obtain ⟨k, hk, rfl, he⟩ := hrel
    by_cases hlt : k < L.length
    · obtain ⟨b, off, rfl, hb, hc⟩ := hcell (by omega)
      obtain ⟨hc0, hc1⟩ := hc k hlt
      clear hc hcell
      by_cases h1 : loA L k ≤ x
      · by_cases h2 : x < hiA L k
        · go_wp2
          go_ret
          exact ⟨ret_bool (has_yes hlt he h1 h2).symm, rfl⟩
        · have hst := has_step hlt he (fun h => h2 h.2)
          go_wp2
          go_round
          case rel => exact ⟨k + 1, by omega, by go_num, hst⟩
          case measure => simp [intOf]; omega
      · have hst := has_step hlt he (fun h => h1 h.1)
        go_wp2
        go_round
        case rel => exact ⟨k + 1, by omega, by go_num, hst⟩
        case measure => simp [intOf]; omega
    · clear hcell
      go_wp2
      go_ret
      exact ⟨ret_bool (has_end (by omega) he).symm, rfl⟩
set_option maxHeartbeats 400000 in
theorem has_gin (v : Value) (L : List (Int × Int)) (x : Int) (w : World) (hs : Sl .i64 w v L) :
    Calls Ybim.prog 24 #[v, .int .i64 x] w fun e w' => e = .returned (.bool (has L x)) ∧ w' = w := by
  obtain ⟨ao, cap, rfl, hl, hm, hcell⟩ := hs
  go_enter Ybim.func24, Ybim.ntmps24
  go_wp2
  go_loop [5] (fun i => ∃ k : Nat, k ≤ L.length ∧ i = .int .i64 k ∧ Hid (has L x = has (L.drop k) x)) (fun i => L.length - (intOf i).toNat)
  case atStart => exact ⟨0, Nat.zero_le _, rfl, rfl⟩
  case round =>
    obtain ⟨k, hk, rfl, he⟩ := hrel
    by_cases hlt : k < L.length
    · obtain ⟨b, off, rfl, hb, hc⟩ := hcell (by omega)
      obtain ⟨hc0, hc1⟩ := hc k hlt
      clear hc hcell
      by_cases h1 : loA L k ≤ x
      · by_cases h2 : x < hiA L k
        · go_wp2
          go_ret
          exact ⟨ret_bool (has_yes hlt he h1 h2).symm, rfl⟩
        · have hst := has_step hlt he (fun h => h2 h.2)
          go_wp2
          go_round
          case rel => exact ⟨k + 1, by omega, by go_num, hst⟩
          case measure => simp [intOf]; omega
      · have hst := has_step hlt he (fun h => h1 h.1)
        go_wp2
        go_round
        case rel => exact ⟨k + 1, by omega, by go_num, hst⟩
        case measure => simp [intOf]; omega
    · clear hcell
      go_wp2
      go_ret
      exact ⟨ret_bool (has_end (by omega) he).symm, rfl⟩
set_option maxHeartbeats 400000 in
theorem has_hin (v : Value) (L : List (Int × Int)) (x : Int) (w : World) (hs : Sl .i64 w v L) :
    Calls Ybim.prog 29 #[v, .int .i64 x] w fun e w' => e = .returned (.bool (has L x)) ∧ w' = w := by
  obtain ⟨ao, cap, rfl, hl, hm, hcell⟩ := hs
  go_enter Ybim.func29, Ybim.ntmps29
  go_wp2
  go_loop [5] (fun i => ∃ k : Nat, k ≤ L.length ∧ i = .int .i64 k ∧ Hid (has L x = has (L.drop k) x)) (fun i => L.length - (intOf i).toNat)
  case atStart => exact ⟨0, Nat.zero_le _, rfl, rfl⟩
  case round =>
    obtain ⟨k, hk, rfl, he⟩ := hrel
    by_cases hlt : k < L.length
    · obtain ⟨b, off, rfl, hb, hc⟩ := hcell (by omega)
      obtain ⟨hc0, hc1⟩ := hc k hlt
      clear hc hcell
      by_cases h1 : loA L k ≤ x
      · by_cases h2 : x < hiA L k
        · go_wp2
          go_ret
          exact ⟨ret_bool (has_yes hlt he h1 h2).symm, rfl⟩
        · have hst := has_step hlt he (fun h => h2 h.2)
          go_wp2
          go_round
          case rel => exact ⟨k + 1, by omega, by go_num, hst⟩
          case measure => simp [intOf]; omega
      · have hst := has_step hlt he (fun h => h1 h.1)
        go_wp2
        go_round
        case rel => exact ⟨k + 1, by omega, by go_num, hst⟩
        case measure => simp [intOf]; omega
    · clear hcell
      go_wp2
      go_ret
      exact ⟨ret_bool (has_end (by omega) he).symm, rfl⟩

end Go.Proofs.Ymbrbi
