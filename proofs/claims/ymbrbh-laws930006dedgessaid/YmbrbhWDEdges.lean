import Derived.Test.YmbrbhWDBuild
namespace Go.Proofs.Ymbrbh
open Go.RowKit

theorem laid_canon {st : Int} {M : List (Int × Int)} {cur : Int} (h : Laid st M.length M cur) : canon M = true :=
  (canon_iff M).2 fun i hi => ⟨(h.1 i hi).1, (h.1 i hi).2.1⟩

set_option maxHeartbeats 2000000 in
theorem walk_DEdges (st : Int) (v : Value) (Z : List Int) (w : World) (w0 : (Lit.int .i32 st).wf = true) (hs : Sl1 w v (Z.map (Value.int .u8))) (hr : ∀ n ∈ Z, (Lit.int .u8 n).wf = true) :
    Calls Ybhm.prog 13 #[.int .i32 st, v] w fun e w' => e = .returned (.bool true) ∧ Below w.heap.size w w' := by
  obtain ⟨a1, a2⟩ := bounds_i32 w0
  clear w0
  have hs' := hs
  obtain ⟨ao, cap, rfl, hl, hm, hcell⟩ := hs
  simp only [List.length_map] at hl hcell hs' ⊢
  clear hcell
  by_cases hbig : 1024 < Z.length
  · go_enter Ybhm.func13, Ybhm.ntmps13
    go_wp2
    go_ret
    exact ⟨rfl, Below.refl _ _⟩
  · go_enter Ybhm.func13, Ybhm.ntmps13
    go_wp2_with fail
    refine (dbuild_any st _ Z _ a1 a2 hs' hr (by omega)).mono ?_
    rintro e w1 ⟨g, cur, rfl, ⟨M, hown, hlaid, hcur⟩, hb1⟩
    have hML := hown.1
    rw [← hML] at hlaid hown ⊢
    have hMb : M.length ≤ 1024 := by omega
    clear hML
    have hcan := laid_canon hlaid
    have hsl := hown.sl
    have hc : CellsAt .i64 w1 g 0 M := by
      intro i hi
      simp only [Nat.zero_add]
      exact ⟨hown.lo hi, hown.hi hi⟩
    have hgl := hown.base_le.2
    go_wp2_with fail
    refine (search_any _ M st _ (hsl.alloc _)).mono ?_
    rintro e w2 ⟨i, rfl, hcut, hb2⟩
    have hi0 : i = 0 := cut_one hcan hcut.out ⟨Nat.zero_le _, fun h => by have := hlaid.1 0 h; omega, fun h => by omega⟩
    subst hi0
    have hbox2 : w2.cell? ⟨w1.heap.size, 0, none⟩ = some (.slice (some ⟨g, 0, none⟩) M.length M.length) := (hb2.cell (p := ⟨w1.heap.size, 0, none⟩) (by simp)).trans (by simp [go_sem])
    have hbw2 := Below.ofAlloc hb2
    have hbf2 := hb1.trans (hbw2.mono hb1.size)
    have hz2 : w1.heap.size < w2.heap.size := by have := hb2.size; simp at this; omega
    clear hb2 hcut
    go_wp2_with fail
    go_loopw [6] (fun i wr => ∃ k : Nat, k ≤ M.length ∧ i = .int .i64 k ∧ Below w2.heap.size w2 wr) (fun i _ => M.length - (intOf i).toNat)
    case atStart => exact ⟨0, Nat.zero_le _, rfl, Below.refl _ _⟩
    case round =>
      obtain ⟨k, hk, rfl, hbel⟩ := hrel
      have hbox := (hbel.cell (p := ⟨w1.heap.size, 0, none⟩) hz2).trans hbox2
      have hb1r := hbw2.trans (hbel.mono (by omega))
      by_cases hlt : k < M.length
      · obtain ⟨hc0, hc1⟩ := hc.get hb1r hgl hlt
        obtain ⟨l1, l2, l3, l4⟩ := hlaid.1 k hlt
        have hslr := hsl.below hb1r
        have hzr := hbel.size
        have y1 : Hid (Cut M (loA M k - 1) k) := ⟨hk, fun _ => by omega, fun h => by have := l2 h; omega⟩
        have y2 : Hid (Cut M (loA M k) k) := ⟨hk, fun _ => by omega, fun h => by have := l2 h; omega⟩
        have y3 : Hid (Cut M (hiA M k - 1) k) := ⟨hk, fun _ => by omega, fun h => by have := l2 h; omega⟩
        have y4 : Hid (Cut M (hiA M k) (k + 1)) := ⟨by omega, fun h => by have := (hlaid.1 (k + 1) h); have e := this.2.1 (by omega); simp at e; omega, fun _ => by simp⟩
        have q1 : -2147483648 ≤ loA M k := by omega
        have q2 : hiA M k ≤ 2147483647 + 68 * 1024 := by omega
        clear l2
        simp only [Nat.zero_add] at hc0 hc1
        have hzg : g < wr.heap.size := by omega
        have hz1 : w1.heap.size < wr.heap.size := by omega
        go_wp2_with fail
        refine (search_any _ M (loA M k - 1) _ (hslr.alloc _)).mono ?_
        rintro e w3 ⟨i, rfl, hcut, hb3⟩
        obtain rfl : i = k := cut_one hcan hcut.out y1.out
        have p3 : w3.cell? ⟨wr.heap.size, 0, none⟩ = some (.int .i64 (loA M i)) := (hb3.cell (p := ⟨wr.heap.size, 0, none⟩) (by simp)).trans (by simp [go_sem])
        have r3 : w3.cell? ⟨wr.heap.size, 1, none⟩ = some (.int .i64 (hiA M i)) := (hb3.cell (p := ⟨wr.heap.size, 1, none⟩) (by simp)).trans (by simp [go_sem])
        have s3 : w3.cell? ⟨w1.heap.size, 0, none⟩ = some (.slice (some ⟨g, 0, none⟩) M.length M.length) := (hb3.cell (p := ⟨w1.heap.size, 0, none⟩) (by simp; omega)).trans (by rw [World.cell?_alloc_lt]; exact hbox; exact hz1)
        have t3 := (hslr.alloc _).below hb3
        have u3 := Below.ofAlloc hb3
        have z3 : wr.heap.size < w3.heap.size := by have := hb3.size; simp at this; omega
        clear hb3 hcut
        go_wp2_with fail
        refine (search_any _ M (loA M i) _ t3).mono ?_
        rintro e w4 ⟨i', rfl, hcut, hb4⟩
        obtain rfl : i' = i := cut_one hcan hcut.out y2.out
        have p4 := (hb4.cell (p := ⟨wr.heap.size, 1, none⟩) z3).trans r3
        have s4 := (hb4.cell (p := ⟨w1.heap.size, 0, none⟩) (by simp; omega)).trans s3
        have t4 := t3.below hb4
        have z4 := hb4.size
        have u4 := u3.trans (hb4.mono (by omega))
        clear hb4 hcut p3 r3 s3 t3
        go_wp2_with fail
        refine (search_any _ M (hiA M i' - 1) _ t4).mono ?_
        rintro e w5 ⟨i, rfl, hcut, hb5⟩
        obtain rfl : i = i' := cut_one hcan hcut.out y3.out
        have p5 := (hb5.cell (p := ⟨wr.heap.size, 1, none⟩) (by simp; omega)).trans p4
        have s5 := (hb5.cell (p := ⟨w1.heap.size, 0, none⟩) (by simp; omega)).trans s4
        have t5 := t4.below hb5
        have z5 := hb5.size
        have u5 := u4.trans (hb5.mono (by omega))
        clear hb5 hcut p4 s4 t4
        go_wp2_with fail
        refine (search_any _ M (hiA M i) _ t5).mono ?_
        rintro e w6 ⟨i', rfl, hcut, hb6⟩
        obtain rfl : i' = i + 1 := cut_one hcan hcut.out y4.out
        have u6 := u5.trans (hb6.mono (by omega))
        clear hb6 hcut
        go_wp2_with fail
        go_roundw
        case rel => exact ⟨i + 1, by omega, by go_num, hbel.trans (u6.mono (by omega))⟩
        case measure => simp [intOf]; omega
      · go_wp2_with fail
        go_ret
        exact ⟨rfl, hbf2.trans (hbel.mono hbf2.size)⟩

end Go.Proofs.Ymbrbh
