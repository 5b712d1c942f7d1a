import Derived.Test.YmbrbiProg
import Derived.Test.YmbrbiPlain
import Derived.Deep.QuietTactic
import Derived.BigQuiet
namespace Go.Proofs.Ymbrbi
open Go.RowKit

set_option maxHeartbeats 1000000 in
theorem canon_gcanon (v : Value) (L : List (Int × Int)) (w : World) (hs : Sl .i64 w v L) :
    Calls Ybim.prog 25 #[v] w fun e w' => e = .returned (.bool (canon L)) ∧ Below w.heap.size w w' := by
  obtain ⟨ao, cap, rfl, hl, hm, hcell⟩ := hs
  go_enter Ybim.func25, Ybim.ntmps25
  go_wp2
  go_loopw [3] (fun i wr => ∃ k : Nat, k ≤ L.length ∧ i = .int .i64 k ∧ Hid (canon L = canonF (prevHi L k) (L.drop k)) ∧ Below w.heap.size w wr) (fun i _ => L.length - (intOf i).toNat)
  case atStart => exact ⟨0, Nat.zero_le _, rfl, rfl, Below.refl _ _⟩
  case round =>
    obtain ⟨k, hk, rfl, he, hbel⟩ := hrel
    by_cases hlt : k < L.length
    · obtain ⟨b, off, rfl, hb, hc⟩ := hcell (by omega)
      obtain ⟨hc0, hc1⟩ := hc k hlt
      rw [← hbel.cell (p := ⟨b, off + k * 2, none⟩) hb] at hc0
      rw [← hbel.cell (p := ⟨b, off + k * 2 + 1, none⟩) hb] at hc1
      rcases Int.lt_or_le (loA L k) (hiA L k) with h1 | h1
      · by_cases h0 : k = 0
        · subst h0
          have hst := canon_step hlt he h1 (by omega)
          simp only [Nat.zero_mul, Nat.add_zero] at hc0 hc1
          clear hc hcell
          go_wp2
          go_quiet (fail)
          go_wp2
          go_quiet (fail)
          go_wp2
          go_roundw
          case rel => exact ⟨0 + 1, by omega, by go_num, hst, (by first | exact below_drewN hbel _ | exact below_drewN (below_drewN hbel _) _)⟩
          case measure => simp [intOf]; omega
        · obtain ⟨k', rfl⟩ : ∃ k', k = k' + 1 := ⟨k - 1, by omega⟩
          have hk0 : decide ((0 : Int) < ((k' + 1 : Nat) : Int)) = true := by simp <;> omega
          have hcp := (hc k' (by omega)).2
          rw [← hbel.cell (p := ⟨b, off + k' * 2 + 1, none⟩) hb] at hcp
          rcases Int.lt_or_le (hiA L k') (loA L (k' + 1)) with h2 | h2
          · have hst := canon_step hlt he h1 (by intro _; simpa using h2)
            clear hc hcell
            go_wp2
            go_quiet (fail)
            go_wp2
            go_quiet (fail)
            go_wp2
            go_roundw
            case rel => exact ⟨k' + 1 + 1, by omega, by go_num, hst, (by first | exact below_drewN hbel _ | exact below_drewN (below_drewN hbel _) _)⟩
            case measure => simp [intOf]; omega
          · have hn : Hid (canon L = false) := canon_no2 hlt (by omega) he (by simpa using h2)
            clear hc hcell
            go_wp2
            go_quiet (fail)
            go_wp2
            go_quiet (fail)
            go_wp2
            go_ret
            exact ⟨ret_bool hn.out.symm, (by first | exact below_drewN hbel _ | exact below_drewN (below_drewN hbel _) _)⟩
      · have hn : Hid (canon L = false) := canon_no1 hlt he h1
        clear hc hcell
        go_wp2
        go_quiet (fail)
        go_wp2
        go_ret
        exact ⟨ret_bool hn.out.symm, (by first | exact below_drewN hbel _ | exact below_drewN (below_drewN hbel _) _)⟩
    · clear hcell
      go_wp2
      go_ret
      exact ⟨ret_bool (canon_end (by omega) he).symm, hbel⟩
set_option maxHeartbeats 1000000 in
theorem canon_hcanon (v : Value) (L : List (Int × Int)) (w : World) (hs : Sl .i64 w v L) :
    Calls Ybim.prog 32 #[v] w fun e w' => e = .returned (.bool (canon L)) ∧ Below w.heap.size w w' := by
  obtain ⟨ao, cap, rfl, hl, hm, hcell⟩ := hs
  go_enter Ybim.func32, Ybim.ntmps32
  go_wp2
  go_loopw [3] (fun i wr => ∃ k : Nat, k ≤ L.length ∧ i = .int .i64 k ∧ Hid (canon L = canonF (prevHi L k) (L.drop k)) ∧ Below w.heap.size w wr) (fun i _ => L.length - (intOf i).toNat)
  case atStart => exact ⟨0, Nat.zero_le _, rfl, rfl, Below.refl _ _⟩
  case round =>
    obtain ⟨k, hk, rfl, he, hbel⟩ := hrel
    by_cases hlt : k < L.length
    · obtain ⟨b, off, rfl, hb, hc⟩ := hcell (by omega)
      obtain ⟨hc0, hc1⟩ := hc k hlt
      rw [← hbel.cell (p := ⟨b, off + k * 2, none⟩) hb] at hc0
      rw [← hbel.cell (p := ⟨b, off + k * 2 + 1, none⟩) hb] at hc1
      rcases Int.lt_or_le (loA L k) (hiA L k) with h1 | h1
      · by_cases h0 : k = 0
        · subst h0
          have hst := canon_step hlt he h1 (by omega)
          simp only [Nat.zero_mul, Nat.add_zero] at hc0 hc1
          clear hc hcell
          go_wp2
          go_quiet (fail)
          go_wp2
          go_quiet (fail)
          go_wp2
          go_roundw
          case rel => exact ⟨0 + 1, by omega, by go_num, hst, (by first | exact below_drewN hbel _ | exact below_drewN (below_drewN hbel _) _)⟩
          case measure => simp [intOf]; omega
        · obtain ⟨k', rfl⟩ : ∃ k', k = k' + 1 := ⟨k - 1, by omega⟩
          have hk0 : decide ((0 : Int) < ((k' + 1 : Nat) : Int)) = true := by simp <;> omega
          have hcp := (hc k' (by omega)).2
          rw [← hbel.cell (p := ⟨b, off + k' * 2 + 1, none⟩) hb] at hcp
          rcases Int.lt_or_le (hiA L k') (loA L (k' + 1)) with h2 | h2
          · have hst := canon_step hlt he h1 (by intro _; simpa using h2)
            clear hc hcell
            go_wp2
            go_quiet (fail)
            go_wp2
            go_quiet (fail)
            go_wp2
            go_roundw
            case rel => exact ⟨k' + 1 + 1, by omega, by go_num, hst, (by first | exact below_drewN hbel _ | exact below_drewN (below_drewN hbel _) _)⟩
            case measure => simp [intOf]; omega
          · have hn : Hid (canon L = false) := canon_no2 hlt (by omega) he (by simpa using h2)
            clear hc hcell
            go_wp2
            go_quiet (fail)
            go_wp2
            go_quiet (fail)
            go_wp2
            go_ret
            exact ⟨ret_bool hn.out.symm, (by first | exact below_drewN hbel _ | exact below_drewN (below_drewN hbel _) _)⟩
      · have hn : Hid (canon L = false) := canon_no1 hlt he h1
        clear hc hcell
        go_wp2
        go_quiet (fail)
        go_wp2
        go_ret
        exact ⟨ret_bool hn.out.symm, (by first | exact below_drewN hbel _ | exact below_drewN (below_drewN hbel _) _)⟩
    · clear hcell
      go_wp2
      go_ret
      exact ⟨ret_bool (canon_end (by omega) he).symm, hbel⟩

end Go.Proofs.Ymbrbi
