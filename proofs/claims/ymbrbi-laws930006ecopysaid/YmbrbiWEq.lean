import Derived.Test.YmbrbiProg
import Derived.Test.YmbrbiPlain
import Derived.Deep.QuietTactic
import Derived.BigQuiet
namespace Go.Proofs.Ymbrbi
open Go.RowKit

set_option maxHeartbeats 400000 in
theorem eq_eeq (va vb : Value) (A B : List (Int × Int)) (w : World) (ha : Sl .i64 w va A) (hb : Sl .i64 w vb B) :
    Calls Ybim.prog 16 #[va, vb] w fun e w' => e = .returned (.bool (eqL A B)) ∧ Below w.heap.size w w' := by
  obtain ⟨aa, ca, rfl, hla, hma, hca⟩ := ha
  obtain ⟨ab, cb, rfl, hlb, hmb, hcb⟩ := hb
  by_cases hlen : A.length = B.length
  case neg =>
    have hne : ((A.length : Int) == (B.length : Int)) = false := by simp; omega
    clear hca hcb
    go_enter Ybim.func16, Ybim.ntmps16
    go_wp2
    go_ret
    exact ⟨ret_bool (eqL_len hlen).symm, Below.refl _ _⟩
  case pos =>
    have hne : ((A.length : Int) == (B.length : Int)) = true := by simp; omega
    have HL : Hid (A.length = B.length) := hlen
    have hle1 : A.length ≤ B.length := by omega
    have hle2 : B.length ≤ A.length := by omega
    clear hlen
    go_enter Ybim.func16, Ybim.ntmps16
    go_wp2
    go_loopw [5] (fun i wr => ∃ k : Nat, k ≤ A.length ∧ i = .int .i64 k ∧ Hid (A.take k = B.take k) ∧ Below w.heap.size w wr) (fun i _ => A.length - (intOf i).toNat)
    case atStart => exact ⟨0, Nat.zero_le _, rfl, rfl, Below.refl _ _⟩
    case round =>
      obtain ⟨k, hk, rfl, he, hbel⟩ := hrel
      by_cases hlt : k < A.length
      · obtain ⟨b, off, rfl, hb, hc⟩ := hca (by omega)
        obtain ⟨b', off', rfl, hb', hc'⟩ := hcb (by omega)
        obtain ⟨hc0, hc1⟩ := hc k hlt
        obtain ⟨hc0', hc1'⟩ := hc' k (by omega)
        clear hc hc' hca hcb
        rw [← hbel.cell (p := ⟨b, off + k * 2, none⟩) hb] at hc0
        rw [← hbel.cell (p := ⟨b, off + k * 2 + 1, none⟩) hb] at hc1
        rw [← hbel.cell (p := ⟨b', off' + k * 2, none⟩) hb'] at hc0'
        rw [← hbel.cell (p := ⟨b', off' + k * 2 + 1, none⟩) hb'] at hc1'
        have hltB : k < B.length := by omega
        by_cases h1 : loA A k = loA B k
        · have h1b : (loA A k != loA B k) = false := by simp [h1]
          by_cases h2 : hiA A k = hiA B k
          · have h2b : (hiA A k != hiA B k) = false := by simp [h2]
            have hst := eqL_step hlt hltB he h1 h2
            clear h1 h2
            go_wp2
            go_quiet (fail)
            go_wp2
            go_roundw
            case rel => exact ⟨k + 1, by omega, by go_num, hst, below_drewN hbel _⟩
            case measure => simp [intOf]; omega
          · have h2b : (hiA A k != hiA B k) = true := by simp [h2]
            have hn : Hid (eqL A B = false) := eqL_no fun h => h2 h.2
            clear h1 h2
            go_wp2
            go_quiet (fail)
            go_wp2
            go_ret
            exact ⟨ret_bool hn.out.symm, below_drewN hbel _⟩
        · have h1b : (loA A k != loA B k) = true := by simp [h1]
          have hn : Hid (eqL A B = false) := eqL_no fun h => h1 h.1
          clear h1
          go_wp2
          go_quiet (fail)
          go_wp2
          go_ret
          exact ⟨ret_bool hn.out.symm, below_drewN hbel _⟩
      · go_wp2
        go_ret
        exact ⟨ret_bool (eqL_end HL.out (by omega) he).symm, hbel⟩
set_option maxHeartbeats 400000 in
theorem eq_geq (va vb : Value) (A B : List (Int × Int)) (w : World) (ha : Sl .i64 w va A) (hb : Sl .i64 w vb B) :
    Calls Ybim.prog 26 #[va, vb] w fun e w' => e = .returned (.bool (eqL A B)) ∧ Below w.heap.size w w' := by
  obtain ⟨aa, ca, rfl, hla, hma, hca⟩ := ha
  obtain ⟨ab, cb, rfl, hlb, hmb, hcb⟩ := hb
  by_cases hlen : A.length = B.length
  case neg =>
    have hne : ((A.length : Int) == (B.length : Int)) = false := by simp; omega
    clear hca hcb
    go_enter Ybim.func26, Ybim.ntmps26
    go_wp2
    go_ret
    exact ⟨ret_bool (eqL_len hlen).symm, Below.refl _ _⟩
  case pos =>
    have hne : ((A.length : Int) == (B.length : Int)) = true := by simp; omega
    have HL : Hid (A.length = B.length) := hlen
    have hle1 : A.length ≤ B.length := by omega
    have hle2 : B.length ≤ A.length := by omega
    clear hlen
    go_enter Ybim.func26, Ybim.ntmps26
    go_wp2
    go_loopw [5] (fun i wr => ∃ k : Nat, k ≤ A.length ∧ i = .int .i64 k ∧ Hid (A.take k = B.take k) ∧ Below w.heap.size w wr) (fun i _ => A.length - (intOf i).toNat)
    case atStart => exact ⟨0, Nat.zero_le _, rfl, rfl, Below.refl _ _⟩
    case round =>
      obtain ⟨k, hk, rfl, he, hbel⟩ := hrel
      by_cases hlt : k < A.length
      · obtain ⟨b, off, rfl, hb, hc⟩ := hca (by omega)
        obtain ⟨b', off', rfl, hb', hc'⟩ := hcb (by omega)
        obtain ⟨hc0, hc1⟩ := hc k hlt
        obtain ⟨hc0', hc1'⟩ := hc' k (by omega)
        clear hc hc' hca hcb
        rw [← hbel.cell (p := ⟨b, off + k * 2, none⟩) hb] at hc0
        rw [← hbel.cell (p := ⟨b, off + k * 2 + 1, none⟩) hb] at hc1
        rw [← hbel.cell (p := ⟨b', off' + k * 2, none⟩) hb'] at hc0'
        rw [← hbel.cell (p := ⟨b', off' + k * 2 + 1, none⟩) hb'] at hc1'
        have hltB : k < B.length := by omega
        by_cases h1 : loA A k = loA B k
        · have h1b : (loA A k != loA B k) = false := by simp [h1]
          by_cases h2 : hiA A k = hiA B k
          · have h2b : (hiA A k != hiA B k) = false := by simp [h2]
            have hst := eqL_step hlt hltB he h1 h2
            clear h1 h2
            go_wp2
            go_quiet (fail)
            go_wp2
            go_roundw
            case rel => exact ⟨k + 1, by omega, by go_num, hst, below_drewN hbel _⟩
            case measure => simp [intOf]; omega
          · have h2b : (hiA A k != hiA B k) = true := by simp [h2]
            have hn : Hid (eqL A B = false) := eqL_no fun h => h2 h.2
            clear h1 h2
            go_wp2
            go_quiet (fail)
            go_wp2
            go_ret
            exact ⟨ret_bool hn.out.symm, below_drewN hbel _⟩
        · have h1b : (loA A k != loA B k) = true := by simp [h1]
          have hn : Hid (eqL A B = false) := eqL_no fun h => h1 h.1
          clear h1
          go_wp2
          go_quiet (fail)
          go_wp2
          go_ret
          exact ⟨ret_bool hn.out.symm, below_drewN hbel _⟩
      · go_wp2
        go_ret
        exact ⟨ret_bool (eqL_end HL.out (by omega) he).symm, hbel⟩
set_option maxHeartbeats 400000 in
theorem eq_heq (va vb : Value) (A B : List (Int × Int)) (w : World) (ha : Sl .i64 w va A) (hb : Sl .i64 w vb B) :
    Calls Ybim.prog 30 #[va, vb] w fun e w' => e = .returned (.bool (eqL A B)) ∧ Below w.heap.size w w' := by
  obtain ⟨aa, ca, rfl, hla, hma, hca⟩ := ha
  obtain ⟨ab, cb, rfl, hlb, hmb, hcb⟩ := hb
  by_cases hlen : A.length = B.length
  case neg =>
    have hne : ((A.length : Int) == (B.length : Int)) = false := by simp; omega
    clear hca hcb
    go_enter Ybim.func30, Ybim.ntmps30
    go_wp2
    go_ret
    exact ⟨ret_bool (eqL_len hlen).symm, Below.refl _ _⟩
  case pos =>
    have hne : ((A.length : Int) == (B.length : Int)) = true := by simp; omega
    have HL : Hid (A.length = B.length) := hlen
    have hle1 : A.length ≤ B.length := by omega
    have hle2 : B.length ≤ A.length := by omega
    clear hlen
    go_enter Ybim.func30, Ybim.ntmps30
    go_wp2
    go_loopw [5] (fun i wr => ∃ k : Nat, k ≤ A.length ∧ i = .int .i64 k ∧ Hid (A.take k = B.take k) ∧ Below w.heap.size w wr) (fun i _ => A.length - (intOf i).toNat)
    case atStart => exact ⟨0, Nat.zero_le _, rfl, rfl, Below.refl _ _⟩
    case round =>
      obtain ⟨k, hk, rfl, he, hbel⟩ := hrel
      by_cases hlt : k < A.length
      · obtain ⟨b, off, rfl, hb, hc⟩ := hca (by omega)
        obtain ⟨b', off', rfl, hb', hc'⟩ := hcb (by omega)
        obtain ⟨hc0, hc1⟩ := hc k hlt
        obtain ⟨hc0', hc1'⟩ := hc' k (by omega)
        clear hc hc' hca hcb
        rw [← hbel.cell (p := ⟨b, off + k * 2, none⟩) hb] at hc0
        rw [← hbel.cell (p := ⟨b, off + k * 2 + 1, none⟩) hb] at hc1
        rw [← hbel.cell (p := ⟨b', off' + k * 2, none⟩) hb'] at hc0'
        rw [← hbel.cell (p := ⟨b', off' + k * 2 + 1, none⟩) hb'] at hc1'
        have hltB : k < B.length := by omega
        by_cases h1 : loA A k = loA B k
        · have h1b : (loA A k != loA B k) = false := by simp [h1]
          by_cases h2 : hiA A k = hiA B k
          · have h2b : (hiA A k != hiA B k) = false := by simp [h2]
            have hst := eqL_step hlt hltB he h1 h2
            clear h1 h2
            go_wp2
            go_quiet (fail)
            go_wp2
            go_roundw
            case rel => exact ⟨k + 1, by omega, by go_num, hst, below_drewN hbel _⟩
            case measure => simp [intOf]; omega
          · have h2b : (hiA A k != hiA B k) = true := by simp [h2]
            have hn : Hid (eqL A B = false) := eqL_no fun h => h2 h.2
            clear h1 h2
            go_wp2
            go_quiet (fail)
            go_wp2
            go_ret
            exact ⟨ret_bool hn.out.symm, below_drewN hbel _⟩
        · have h1b : (loA A k != loA B k) = true := by simp [h1]
          have hn : Hid (eqL A B = false) := eqL_no fun h => h1 h.1
          clear h1
          go_wp2
          go_quiet (fail)
          go_wp2
          go_ret
          exact ⟨ret_bool hn.out.symm, below_drewN hbel _⟩
      · go_wp2
        go_ret
        exact ⟨ret_bool (eqL_end HL.out (by omega) he).symm, hbel⟩

end Go.Proofs.Ymbrbi
