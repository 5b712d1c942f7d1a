import Derived.Test.YmbrbiWEq
import Derived.Test.YmbrbiWSpans
import Derived.Test.YmbrbiLCopy
import Derived.Test.YmbrbiOwn4
import Derived.WalkSpells
import Derived.Lib.SliceRun
import Derived.Deep.RegionWith
namespace Go.Proofs.Ymbrbi
open Go.RowKit

set_option maxHeartbeats 4000000 in
theorem walk_ECopy (v : Value) (L : List (Int × Int)) (w : World) (hs : Sl .i64 w v L) (_ : RL .i64 L) :
    Calls Ybim.prog 3 #[v] w fun e w' => e = .returned (.bool true) ∧ Below w.heap.size w w' := by
  have hs' := hs
  obtain ⟨ao, cap, rfl, hl, hm, hcell⟩ := hs
  by_cases hbig : 1024 < L.length
  · clear hcell
    go_enter Ybim.func3, Ybim.ntmps3
    go_wp2
    go_ret
    exact ⟨rfl, Below.refl _ _⟩
  have heq : Hid (eqL L L = true) := by show _ = _; unfold eqL; simp
  have qn : ∀ (w : World) (a : Option Addr) (n c n' c' : Nat), (binOp .neq 22 (.slice a n c) (.slice none n' c')).run Ybim.prog w = .ok (.bool (!a.isNone)) w := fun w a n c n' c' => run_neq_slice_nil_any w _ _ a n c n' c' Ybim.underlying22
  have qe : ∀ (w : World) (a : Option Addr) (n c n' c' : Nat), (binOp .eql 22 (.slice a n c) (.slice none n' c')).run Ybim.prog w = .ok (.bool a.isNone) w := fun w a n c n' c' => Lib.run_eql_slice_nil w _ _ a n c n' c' Ybim.underlying22
  cases ao with
  | none =>
    have hn0 : L.length = 0 := by
      rcases Nat.eq_zero_or_pos L.length with h | h
      · exact h
      · obtain ⟨b, off, e, _⟩ := hcell h
        cases e
    obtain rfl : L = [] := List.eq_nil_of_length_eq_zero hn0
    clear hn0 hcell
    go_enter Ybim.func3, Ybim.ntmps3
    go_wp2_with fail
    have hcs : (w.alloc (.cells #[.slice none 0 0] 24)).cell? ⟨w.heap.size, 0, none⟩ = some (.slice none 0 0) := by simp [go_sem]
    have hsl : Sl .i64 (w.alloc (.cells #[.slice none 0 0] 24)) (.slice none 0 0) [] := Sl.nil _ _
    have hL := hs'.alloc (.cells #[.slice none 0 0] 24)
    have hbel : Below w.heap.size w (w.alloc (.cells #[.slice none 0 0] 24)) := (Below.refl _ _).alloc (Nat.le_refl _) _
    have hzr : w.heap.size < (w.alloc (.cells #[.slice none 0 0] 24)).heap.size := by simp
    generalize w.alloc (.cells #[.slice none 0 0] 24) = wr at *
    clear hs' hbig
    obtain ⟨wo, hwo⟩ : ∃ wo : World, wo = wr := ⟨_, rfl⟩
    subst hwo
    go_wp2_with fail
    refine (spans_any _ [] _ hsl (by simp)).mono ?_
    rintro e w2 ⟨g, rfl, hown2, hb2⟩
    have hL2 := hL.below hb2
    simp only [List.length_nil]
    go_wp2_with fail
    refine (eq_eeq _ _ [] [] _ hown2.sl hL2).mono ?_
    rintro e w3 ⟨rfl, hb3⟩
    rw [heq.out]
    have hb23 := hb2.trans (hb3.mono hb2.size)
    clear hown2 hb2 hb3 hL2
    go_wp2_with fail
    go_loopw [6] (fun i wx => i = .int .i64 0 ∧ Below wo.heap.size wo wx) (fun i _ => 0)
    case atStart => exact ⟨rfl, hb23⟩
    case round =>
      obtain ⟨rfl, hbx⟩ := hrel
      clear hb23
      have hslx := hsl.below hbx
      have hLx := hL.below hbx
      have hcx := (hbx.cell (p := ⟨w.heap.size, 0, none⟩) hzr).trans hcs
      have hBx := hbel.trans (hbx.mono hbel.size)
      have hzx := Nat.lt_of_lt_of_le hzr hbx.size
      clear hsl hL hcs hbel hbx
      go_wp2_with fail
      refine (eq_eeq _ _ [] [] _ hslx hLx).mono ?_
      rintro e w5 ⟨rfl, hb5⟩
      rw [heq.out]
      have hsl5 := hslx.below hb5
      have hL5 := hLx.below hb5
      have hc5 := (hb5.cell (p := ⟨w.heap.size, 0, none⟩) hzx).trans hcx
      have hB5 := hBx.trans (hb5.mono hBx.size)
      clear hslx hLx hcx hBx hb5
      go_wp2_with fail
      refine (spans_any _ [] _ hsl5 (by simp)).mono ?_
      rintro e w6 ⟨g6, rfl, hown6, hb6⟩
      have hL6 := hL5.below hb6
      have hB6 := hB5.trans (hb6.mono hB5.size)
      simp only [List.length_nil]
      go_wp2_with fail
      refine (eq_eeq _ _ [] [] _ hown6.sl hL6).mono ?_
      rintro e w7 ⟨rfl, hb7⟩
      rw [heq.out]
      go_wp2_with fail
      go_ret
      exact ⟨rfl, hB6.trans (hb7.mono hB6.size)⟩
  | some ad =>
    go_enter Ybim.func3, Ybim.ntmps3
    go_wp2_with (at_make; refine wp_mkN _ (w.heap.size + 1) (by simp) rfl _ _ rfl L.length rfl rfl (by omega) ?_; intro w1 hown1 hb1; have hc1 : w1.cell? ⟨w.heap.size, 0, none⟩ = some (.slice none 0 0) := (hb1.cell (p := ⟨w.heap.size, 0, none⟩) (by simp)).trans (by simp [go_sem]); have hf1 : w1.frozen? ⟨w.heap.size, 0, none⟩ = false := (hb1.frozen (p := ⟨w.heap.size, 0, none⟩) (by simp)).trans (by simp [go_sem]))
    have hcb : (w1.setCell ⟨w.heap.size, 0, none⟩ (.slice (some ⟨w.heap.size + 1, 0, none⟩) L.length L.length)).cell? ⟨w.heap.size, 0, none⟩ = some (.slice (some ⟨w.heap.size + 1, 0, none⟩) L.length L.length) := World.cell?_setCell_same _ _ _ hc1
    have hownb := hown1.setBelow (a := ⟨w.heap.size, 0, none⟩) (by simp) (.slice (some ⟨w.heap.size + 1, 0, none⟩) L.length L.length)
    have hbb : Below w.heap.size w (w1.setCell ⟨w.heap.size, 0, none⟩ (.slice (some ⟨w.heap.size + 1, 0, none⟩) L.length L.length)) := (((Below.refl _ _).alloc (Nat.le_refl _) _).trans (hb1.mono (by omega))).setCell (by simp) _
    go_loopw [4] (fun i wr => ∃ (k : Nat) (M : List (Int × Int)), k ≤ L.length ∧ i = .int .i64 k ∧ wr.cell? ⟨w.heap.size, 0, none⟩ = some (.slice (some ⟨w.heap.size + 1, 0, none⟩) L.length L.length) ∧ Own wr (w.heap.size + 1) (some ⟨w.heap.size + 1, 0, none⟩) L.length L.length M ∧ Copied L k M ∧ Below w.heap.size w wr)
      (fun i _ => L.length - (intOf i).toNat)
    case atStart => exact ⟨0, _, Nat.zero_le _, rfl, hcb, hownb, copied_start (by simp), hbb⟩
    case round =>
      obtain ⟨k, M, hk, rfl, hcs, hown, hcp, hbel⟩ := hrel
      clear hown1 hb1 hcb hownb hbb hc1 hf1
      by_cases hlt : k < L.length
      · obtain ⟨b, off, e, hb, hc⟩ := hcell (by omega)
        cases e
        obtain ⟨hc0, hc1⟩ := hc.get hbel hb hlt
        have hst := copied_step hcp hlt
        have e0 := hown.lo (k := k) hlt
        have e1 := hown.hi (k := k) hlt
        have y0 := hown.froz (k * 2)
        have y1 := hown.froz (k * 2 + 1)
        have hown2 := hown.drew.store (k := k) hlt (loA L k) (hiA L k)
        have hb2 : Below w.heap.size w ((wr.drew.setCell ⟨w.heap.size + 1, k * 2, none⟩ (.int .i64 (loA L k))).setCell ⟨w.heap.size + 1, k * 2 + 1, none⟩ (.int .i64 (hiA L k))) := (hbel.drew.setCell (by simp) _).setCell (by simp) _
        have hcs2 : ((wr.drew.setCell ⟨w.heap.size + 1, k * 2, none⟩ (.int .i64 (loA L k))).setCell ⟨w.heap.size + 1, k * 2 + 1, none⟩ (.int .i64 (hiA L k))).cell? ⟨w.heap.size, 0, none⟩ = some (.slice (some ⟨w.heap.size + 1, 0, none⟩) L.length L.length) := by
          rw [World.cell?_of_block (w := wr.drew.setCell ⟨w.heap.size + 1, k * 2, none⟩ (.int .i64 (loA L k))) (Below.heap_setCell _ _ _ _ (by simp)), World.cell?_of_block (w := wr.drew) (Below.heap_setCell _ _ _ _ (by simp))]
          exact hcs
        have hzb := hown.base_le
        clear hcell hc hown hcp hs'
        go_wp2_with fail
        go_region
        all_goals
          go_wp2_with fail
          go_roundw
          case rel => exact ⟨k + 1, _, by omega, by go_num, hcs2, hown2, hst, hb2⟩
          case measure => simp [intOf]; omega
      · have hML := copied_end hcp (by omega)
        subst hML
        have hsl := hown.sl
        have hL := hs'.below hbel
        have hzr : w.heap.size < wr.heap.size := by have := hown.base_le; omega
        clear hcell hcp hs' hown
        obtain ⟨wo, hwo⟩ : ∃ wo : World, wo = wr := ⟨_, rfl⟩
        subst hwo
        go_wp2_with fail
        refine (spans_any _ M _ hsl (by omega)).mono ?_
        rintro e w2 ⟨g, rfl, hown2, hb2⟩
        have hL2 := hL.below hb2
        have hB2 := hbel.trans (hb2.mono hbel.size)
        go_wp2_with fail
        refine (eq_eeq _ _ M M _ hown2.sl hL2).mono ?_
        rintro e w3 ⟨rfl, hb3⟩
        rw [heq.out]
        have hown3 := hown2.below hb3
        have hb23 := hb2.trans (hb3.mono hb2.size)
        clear hown2 hb2 hb3 hL2 hB2
        go_wp2_with fail
        go_loopw [6] (fun i wx => ∃ (k : Nat) (R : List (Int × Int)), k ≤ M.length ∧ i = .int .i64 k ∧ Own wx wo.heap.size (some ⟨g, 0, none⟩) M.length M.length R ∧ Below wo.heap.size wo wx)
          (fun i _ => M.length - (intOf i).toNat)
        case atStart => exact ⟨0, _, Nat.zero_le _, rfl, hown3, hb23⟩
        case round =>
          obtain ⟨k, R, hk, rfl, hown, hbx⟩ := hrel
          clear hown3 hb23
          by_cases hlt : k < M.length
          · have e0 := hown.lo (k := k) hlt
            have e1 := hown.hi (k := k) hlt
            have y0 := hown.froz (k * 2)
            have y1 := hown.froz (k * 2 + 1)
            have hzb := hown.base_le
            go_wp2_with fail
            go_region
            all_goals
              go_wp2_with fail
              generalize (bits BinOp.xor IntKind.i64 (if IntKind.i64.signed = true then -1 else 9223372036854775807) (loA R k)) = X
              generalize (bits BinOp.xor IntKind.i64 (if IntKind.i64.signed = true then -1 else 9223372036854775807) (hiA R k)) = Y
              go_roundw
              case rel => exact ⟨k + 1, R.set k _, (by omega), (by go_num), (by first | exact (hown.store hlt X Y).drew | exact hown.drew.store hlt X Y), (by first | exact ((hbx.setCell hzb.1 _).setCell hzb.1 _).drew | exact (hbx.drew.setCell hzb.1 _).setCell hzb.1 _)⟩
              case measure => simp [intOf]; omega
          · have hslx := hsl.below hbx
            have hLx := hL.below hbx
            have hcx := (hbx.cell (p := ⟨w.heap.size, 0, none⟩) hzr).trans hcs
            have hBx := hbel.trans (hbx.mono hbel.size)
            have hzx := Nat.lt_of_lt_of_le hzr hbx.size
            clear hsl hL hcs hbel hbx hown
            go_wp2_with fail
            refine (eq_eeq _ _ M M _ hslx hLx).mono ?_
            rintro e w5 ⟨rfl, hb5⟩
            rw [heq.out]
            have hsl5 := hslx.below hb5
            have hL5 := hLx.below hb5
            have hc5 := (hb5.cell (p := ⟨w.heap.size, 0, none⟩) hzx).trans hcx
            have hB5 := hBx.trans (hb5.mono hBx.size)
            clear hslx hLx hcx hBx hb5
            go_wp2_with fail
            refine (spans_any _ M _ hsl5 (by omega)).mono ?_
            rintro e w6 ⟨g6, rfl, hown6, hb6⟩
            have hL6 := hL5.below hb6
            have hB6 := hB5.trans (hb6.mono hB5.size)
            go_wp2_with fail
            refine (eq_eeq _ _ M M _ hown6.sl hL6).mono ?_
            rintro e w7 ⟨rfl, hb7⟩
            rw [heq.out]
            go_wp2_with fail
            go_ret
            exact ⟨rfl, hB6.trans (hb7.mono hB6.size)⟩

end Go.Proofs.Ymbrbi
