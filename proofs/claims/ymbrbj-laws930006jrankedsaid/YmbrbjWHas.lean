import Derived.Test.YmbrbjProg
import Derived.Test.YmbrbjPlain
namespace Go.Proofs.Ymbrbj
open Go.RowKit

set_option maxHeartbeats 400000 in
theorem has_iin (v : Value) (L : List (Int × Int)) (x : Int) (w : World) (hs : Sl .i64 w v L) :
    Calls Ybjm.prog 16 #[v, .int .i64 x] w fun e w' => e = .returned (.bool (has L x)) ∧ w' = w := by
  obtain ⟨ao, cap, rfl, hl, hm, hcell⟩ := hs
  go_enter Ybjm.func16, Ybjm.ntmps16
  go_wp2
  go_loop [5] (fun i => ∃ k : Nat, k ≤ L.length ∧ i = .int .i64 k ∧ Hid (has L x = has (L.drop k) x)) (fun i => L.length - (intOf i).toNat)
  case atStart => exact ⟨0, Nat.zero_le _, rfl, rfl⟩
  case round =>
    obtain ⟨k, hk, rfl, he⟩ := hrel
    by_cases hlt : k < L.length
    · obtain ⟨b, off, rfl, hb, hc⟩ := hcell (by omega)
      obtain ⟨hc0, hc1⟩ := hc k hlt
      clear hc hcell
      by_cases h1 : loA L k ≤ x
      · by_cases h2 : x < hiA L k
        · go_wp2
          go_ret
          exact ⟨ret_bool (has_yes hlt he h1 h2).symm, rfl⟩
        · have hst := has_step hlt he (fun h => h2 h.2)
          go_wp2
          go_round
          case rel => exact ⟨k + 1, by omega, by go_num, hst⟩
          case measure => simp [intOf]; omega
      · have hst := has_step hlt he (fun h => h1 h.1)
        go_wp2
        go_round
        case rel => exact ⟨k + 1, by omega, by go_num, hst⟩
        case measure => simp [intOf]; omega
    · clear hcell
      go_wp2
      go_ret
      exact ⟨ret_bool (has_end (by omega) he).symm, rfl⟩
set_option maxHeartbeats 400000 in
theorem has_jin (v : Value) (L : List (Int × Int)) (x : Int) (w : World) (hs : Sl .i64 w v L) :
    Calls Ybjm.prog 29 #[v, .int .i64 x] w fun e w' => e = .returned (.bool (has L x)) ∧ w' = w := by
  obtain ⟨ao, cap, rfl, hl, hm, hcell⟩ := hs
  go_enter Ybjm.func29, Ybjm.ntmps29
  go_wp2
  go_loop [5] (fun i => ∃ k : Nat, k ≤ L.length ∧ i = .int .i64 k ∧ Hid (has L x = has (L.drop k) x)) (fun i => L.length - (intOf i).toNat)
  case atStart => exact ⟨0, Nat.zero_le _, rfl, rfl⟩
  case round =>
    obtain ⟨k, hk, rfl, he⟩ := hrel
    by_cases hlt : k < L.length
    · obtain ⟨b, off, rfl, hb, hc⟩ := hcell (by omega)
      obtain ⟨hc0, hc1⟩ := hc k hlt
      clear hc hcell
      by_cases h1 : loA L k ≤ x
      · by_cases h2 : x < hiA L k
        · go_wp2
          go_ret
          exact ⟨ret_bool (has_yes hlt he h1 h2).symm, rfl⟩
        · have hst := has_step hlt he (fun h => h2 h.2)
          go_wp2
          go_round
          case rel => exact ⟨k + 1, by omega, by go_num, hst⟩
          case measure => simp [intOf]; omega
      · have hst := has_step hlt he (fun h => h1 h.1)
        go_wp2
        go_round
        case rel => exact ⟨k + 1, by omega, by go_num, hst⟩
        case measure => simp [intOf]; omega
    · clear hcell
      go_wp2
      go_ret
      exact ⟨ret_bool (has_end (by omega) he).symm, rfl⟩

end Go.Proofs.Ymbrbj
