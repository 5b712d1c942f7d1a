import Derived.Test.YmbrbiWFrom
import Derived.Test.YmbrbiWHas
import Derived.Test.YmbrbiWEq
import Derived.Test.YmbrbiWSpans
import Derived.Test.YmbrbiThy
import Derived.Test.YmbrbiField
import Derived.Deep.QuietTactic
import Derived.BigQuiet
namespace Go.Proofs.Ymbrbi
open Go.RowKit

set_option maxHeartbeats 2000000 in
theorem walk_EUnion (v : Value) (L : List (Int × Int)) (x : Int) (w : World) (hs : Sl .i64 w v L) (_ : RL .i64 L) (_ : (Lit.int .i64 x).wf = true) :
    Calls Ybim.prog 5 #[v, .int .i64 x] w fun e w' => e = .returned (.bool true) ∧ Below w.heap.size w w' := by
  have hs' := hs
  obtain ⟨ao, cap, rfl, hl, hm, hcell⟩ := hs
  clear hcell
  by_cases hbig : 1024 < L.length
  · go_enter Ybim.func5, Ybim.ntmps5
    go_wp2
    go_ret
    exact ⟨rfl, Below.refl _ _⟩
  · have hcan := fromS_canon L
    have hhx := hide (fromS_has L x)
    have HCI := hide ((canon_iff (fromS L)).1 hcan)
    have hself := hide (fromS_self hcan)
    have hlen := fromS_length L
    have heq : Hid (eqL (fromS L) (fromS L) = true) := by show _ = _; unfold eqL; simp
    have hfield := run_spans
    clear hcan
    go_enter Ybim.func5, Ybim.ntmps5
    go_wp2_with fail
    refine (from_any _ L _ hs' (by omega)).mono ?_
    rintro e w1 ⟨v1, rfl, hsl1, _, hb1⟩
    generalize fromS L = U at *
    go_wp2_with fail
    refine (spans_any _ U _ hsl1 (by omega)).mono ?_
    rintro e w2 ⟨g, rfl, hown2, hb2⟩
    have hL2 := (hs'.below hb1).below hb2
    have hB2 := hb1.trans (hb2.mono hb1.size)
    have hzg := hown2.base_le
    clear hsl1 hb1 hb2
    go_wp2_with fail
    go_loopw [6] (fun i wr => ∃ k : Nat, k ≤ U.length ∧ i = .int .i64 k ∧ Below w2.heap.size w2 wr) (fun i _ => U.length - (intOf i).toNat)
    case atStart => exact ⟨0, Nat.zero_le _, rfl, Below.refl _ _⟩
    case round =>
      obtain ⟨k, hk, rfl, hbel⟩ := hrel
      have hownr := hown2.below hbel
      by_cases hlt : k < U.length
      · have hc0 := hownr.lo (k := k) hlt
        have hc1 := hownr.hi (k := k) hlt
        obtain ⟨h1, h2⟩ := HCI.out k hlt
        by_cases h0 : k = 0
        · subst h0
          simp only [Nat.zero_mul, Nat.zero_add] at hc0 hc1
          clear h2 hownr hown2
          go_wp2
          go_quiet (fail)
          go_wp2
          go_quiet (fail)
          go_wp2
          go_roundw
          case rel => exact ⟨0 + 1, by omega, by go_num, (by first | exact below_drewN hbel _ | exact below_drewN (below_drewN hbel _) _)⟩
          case measure => simp [intOf]; omega
        · obtain ⟨k', rfl⟩ : ∃ k', k = k' + 1 := ⟨k - 1, by omega⟩
          have hk0 : decide ((0 : Int) < ((k' + 1 : Nat) : Int)) = true := by simp <;> omega
          have hcp := hownr.hi (k := k') (by omega)
          have h3 : hiA U k' < loA U (k' + 1) := by simpa using h2 (by omega)
          clear h2 hownr hown2
          go_wp2
          go_quiet (fail)
          go_wp2
          go_quiet (fail)
          go_wp2
          go_roundw
          case rel => exact ⟨k' + 1 + 1, by omega, by go_num, (by first | exact below_drewN hbel _ | exact below_drewN (below_drewN hbel _) _)⟩
          case measure => simp [intOf]; omega
      · have hU := hownr.sl
        have hLr := hL2.below hbel
        have hBr := hB2.trans (hbel.mono hB2.size)
        clear HCI
        go_wp2_with fail
        refine (has_ein _ U x _ hU).mono ?_
        rintro e w3 ⟨rfl, rfl⟩
        rw [hhx.out]
        go_wp2_with fail
        refine (has_ein _ L x _ hLr).mono ?_
        rintro e w4 ⟨rfl, rfl⟩
        go_wp2_with fail
        refine (from_any _ U _ hU (by omega)).mono ?_
        rintro e w5 ⟨v5, rfl, hsl5, _, hb5⟩
        rw [hself.out] at hsl5
        obtain ⟨a5, n5, c5, hv5⟩ := hsl5.shape
        subst hv5
        have hU5 := hU.below hb5
        have hB5 := hBr.trans (hb5.mono hBr.size)
        go_wp2_with fail
        refine (eq_eeq _ _ U U _ hsl5 hU5).mono ?_
        rintro e w6 ⟨rfl, hb6⟩
        rw [heq.out]
        go_wp2_with fail
        go_ret
        exact ⟨rfl, hB5.trans (hb6.mono hB5.size)⟩

end Go.Proofs.Ymbrbi
