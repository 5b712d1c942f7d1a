import Derived.Test.YmbrbhProg
import Derived.Test.YmbrbhPlain
import Derived.Deep.QuietTactic
import Derived.BigQuiet
namespace Go.Proofs.Ymbrbh
open Go.RowKit

/-- What search answers, over whatever list: a cut. -/
def Cut (L : List (Int × Int)) (x : Int) (i : Nat) : Prop := i ≤ L.length ∧ (i < L.length → x < hiA L i) ∧ (0 < i → hiA L (i - 1) ≤ x)

set_option maxHeartbeats 400000 in
theorem search_any (v : Value) (L : List (Int × Int)) (x : Int) (w : World) (hs : Sl .i64 w v L) :
    Calls Ybhm.prog 28 #[.agg #[v], .int .i64 x] w fun e w' => ∃ i : Nat, e = .returned (.int .i64 i) ∧ Hid (Cut L x i) ∧ Below w.heap.size w w' := by
  obtain ⟨ao, cap, rfl, hl, hm, hcell⟩ := hs
  go_enter Ybhm.func28, Ybhm.ntmps28
  go_wp2
  go_quiet (fail)
  go_wp2
  go_loop [5, 6, 7] (fun i j _ => ∃ p q : Nat, p ≤ q ∧ q ≤ L.length ∧ i = .int .i64 p ∧ j = .int .i64 q ∧ (q < L.length → x < hiA L q) ∧ (0 < p → hiA L (p - 1) ≤ x)) (fun i j _ => (intOf j).toNat - (intOf i).toNat)
  case atStart => exact ⟨0, L.length, Nat.zero_le _, Nat.le_refl _, rfl, rfl, fun h => by omega, fun h => by omega⟩
  case round =>
    obtain ⟨p, q, hpq, hq, rfl, rfl, h1, h2⟩ := hrel
    by_cases hlt : p < q
    · obtain ⟨m, hm⟩ : ∃ m : Nat, m = p + (q - p) / 2 := ⟨_, rfl⟩
      have hmi : (p : Int) + ((q : Int) - p) / 2 = (m : Int) := by omega
      have hm1 : p ≤ m := by omega
      have hm2 : m < q := by omega
      obtain ⟨b, off, rfl, hb, hc⟩ := hcell (by omega)
      obtain ⟨hc0, hc1⟩ := hc m (by omega)
      clear hm hc hcell
      by_cases hx : x < hiA L m
      · go_wp2
        go_round
        case rel => exact ⟨p, m, hm1, by omega, rfl, rfl, fun _ => hx, h2⟩
        case measure => simp [intOf]; omega
      · go_wp2
        go_round
        case rel => exact ⟨m + 1, q, by omega, by omega, by go_num, rfl, h1, fun _ => by simp; omega⟩
        case measure => simp [intOf]; omega
    · have hcut : Hid (Cut L x p) := ⟨by omega, fun h => h1 (by omega) |> fun g => by rwa [show p = q from by omega], h2⟩
      clear hcell h1 h2
      go_wp2
      go_ret
      exact ⟨p, rfl, hcut, below_drewN ((Below.refl _ _).alloc (Nat.le_refl _) _) _⟩

end Go.Proofs.Ymbrbh
