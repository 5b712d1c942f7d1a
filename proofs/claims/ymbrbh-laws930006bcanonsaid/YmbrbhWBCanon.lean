import Derived.Test.YmbrbhWFrom
import Derived.Test.YmbrbhWBorder
import Derived.Test.YmbrbhWUni
import Derived.Test.YmbrbhWEq
import Derived.Test.YmbrbhWSpans
namespace Go.Proofs.Ymbrbh
open Go.RowKit

set_option maxHeartbeats 2000000 in
theorem walk_BCanon (va : Value) (A : List (Int × Int)) (vb : Value) (B : List (Int × Int)) (w : World) (ha : Sl .i64 w va A) (_ : RL .i64 A) (hb : Sl .i64 w vb B) (_ : RL .i64 B) :
    Calls Ybhm.prog 7 #[va, vb] w fun e w' => e = .returned (.bool true) ∧ Below w.heap.size w w' := by
  have ha' := ha
  have hb' := hb
  obtain ⟨aa, ca, rfl, hla, hma, hca⟩ := ha
  obtain ⟨ab, cb, rfl, hlb, hmb, hcb⟩ := hb
  clear hca hcb
  by_cases hbig : 512 < A.length
  · go_enter Ybhm.func7, Ybhm.ntmps7
    go_wp2
    go_ret
    exact ⟨rfl, Below.refl _ _⟩
  by_cases hbig2 : 512 < B.length
  · go_enter Ybhm.func7, Ybhm.ntmps7
    go_wp2
    go_ret
    exact ⟨rfl, Below.refl _ _⟩
  · have hlA := borderL_length A
    have hlB := borderL_length B
    have hfA := fromS_length (borderL A)
    have hfB := fromS_length (borderL B)
    have hcan := (uni_thy (fromS_canon (borderL A)) (fromS_canon (borderL B))).1
    have hb1 : (borderL A).length ≤ 512 := by omega
    have hb2 : (borderL B).length ≤ 512 := by omega
    clear hlA hlB
    go_enter Ybhm.func7, Ybhm.ntmps7
    go_wp2_with fail
    refine (border_any _ A _ ha' (by omega)).mono ?_
    rintro e w1 ⟨v1, rfl, hsl1, _, hbl1⟩
    obtain ⟨a1, n1, c1, hv1⟩ := hsl1.shape
    subst hv1
    go_wp2_with fail
    refine (from_any _ (borderL A) _ hsl1 (by omega)).mono ?_
    rintro e w2 ⟨v2, rfl, hsl2, _, hbl2⟩
    obtain ⟨a2, n2, c2, hv2⟩ := hsl2.shape
    subst hv2
    have hB2 := hbl1.trans (hbl2.mono hbl1.size)
    go_wp2_with fail
    have hbB := (hb'.below hB2).alloc (.cells #[.slice a2 n2 c2] 27)
    have hS2 := hsl2.alloc (.cells #[.slice a2 n2 c2] 27)
    have hX2 : (w2.alloc (.cells #[.slice a2 n2 c2] 27)).cell? ⟨w2.heap.size, 0, none⟩ = some (.slice a2 n2 c2) := by simp [go_sem]
    have hB2' := hB2.alloc hB2.size (.cells #[.slice a2 n2 c2] 27)
    have hz2 : w2.heap.size < (w2.alloc (.cells #[.slice a2 n2 c2] 27)).heap.size := by simp
    generalize w2.alloc (.cells #[.slice a2 n2 c2] 27) = W2 at *
    clear hbl1 hbl2 hsl1 hsl2 hB2
    refine (border_any _ B _ hbB (by omega)).mono ?_
    rintro e w3 ⟨v3, rfl, hsl3, _, hbl3⟩
    obtain ⟨a3, n3, c3, hv3⟩ := hsl3.shape
    subst hv3
    go_wp2_with fail
    refine (from_any _ (borderL B) _ hsl3 (by omega)).mono ?_
    rintro e w4 ⟨v4, rfl, hsl4, _, hbl4⟩
    obtain ⟨a4, n4, c4, hv4⟩ := hsl4.shape
    subst hv4
    have hb34 := hbl3.trans (hbl4.mono hbl3.size)
    have hz34 := hb34.size
    have hX34 := (hb34.cell (p := ⟨w2.heap.size, 0, none⟩) hz2).trans hX2
    have hz24 : w2.heap.size < w4.heap.size := by omega
    go_wp2_with fail
    have hS4 := (hS2.below hb34).alloc (.cells #[.slice a4 n4 c4] 27)
    have hT4 := hsl4.alloc (.cells #[.slice a4 n4 c4] 27)
    have hX4 : (w4.alloc (.cells #[.slice a4 n4 c4] 27)).cell? ⟨w2.heap.size, 0, none⟩ = some (.slice a2 n2 c2) := by
      rw [World.cell?_alloc_lt]
      · exact hX34
      · simpa using hz24
    have hY4 : (w4.alloc (.cells #[.slice a4 n4 c4] 27)).cell? ⟨w4.heap.size, 0, none⟩ = some (.slice a4 n4 c4) := by simp [go_sem]
    have hB4 := hB2'.trans (hb34.mono hB2'.size)
    have hB4' := hB4.alloc hB4.size (.cells #[.slice a4 n4 c4] 27)
    have hz4 : w4.heap.size < (w4.alloc (.cells #[.slice a4 n4 c4] 27)).heap.size := by simp
    have hz4' : w2.heap.size < (w4.alloc (.cells #[.slice a4 n4 c4] 27)).heap.size := by simp; omega
    generalize w4.alloc (.cells #[.slice a4 n4 c4] 27) = W4 at *
    generalize fromS (borderL A) = S at *
    generalize fromS (borderL B) = T at *
    clear hbl3 hbl4 hsl3 hsl4 hB4 hS2 hX2 hB2' hb34 hbB
    refine (spans_any _ S _ hS4 (by omega)).mono ?_
    rintro e w5 ⟨g5, rfl, hown5, hbl5⟩
    have hx5 := (hbl5.cell (p := ⟨w2.heap.size, 0, none⟩) hz4').trans hX4
    have hy5 := (hbl5.cell (p := ⟨w4.heap.size, 0, none⟩) hz4).trans hY4
    have hS5 := hS4.below hbl5
    have hT5 := hT4.below hbl5
    have hB5 := hB4'.trans (hbl5.mono hB4'.size)
    have hz5 := hbl5.size
    go_wp2_with fail
    refine (spans_any _ T _ hT5 (by omega)).mono ?_
    rintro e w6 ⟨g6, rfl, hown6, hbl6⟩
    have hx6 := (hbl6.cell (p := ⟨w2.heap.size, 0, none⟩) (by simp; omega)).trans hx5
    have hy6 := (hbl6.cell (p := ⟨w4.heap.size, 0, none⟩) (by simp; omega)).trans hy5
    have hS6 := hS5.below hbl6
    have hT6 := hT5.below hbl6
    have hK6 := hown5.sl.below hbl6
    have hL6 := hown6.sl
    have hB6 := hB5.trans (hbl6.mono hB5.size)
    have hz6 := hbl6.size
    clear hbl5 hbl6 hx5 hy5 hS5 hT5 hS4 hT4 hX4 hY4 hB4' hB5
    go_wp2_with fail
    refine (uni_any _ _ S T _ hS6 hT6 (by omega) (by omega)).mono ?_
    rintro e w7 ⟨v7, rfl, hsl7, _, hbl7⟩
    generalize uni S T = U at *
    have hU7 := hsl7
    obtain ⟨a7, c7, rfl, hl7, hm7, hcell7⟩ := hsl7
    have hx7 := (hbl7.cell (p := ⟨w2.heap.size, 0, none⟩) (by simp; omega)).trans hx6
    have hy7 := (hbl7.cell (p := ⟨w4.heap.size, 0, none⟩) (by simp; omega)).trans hy6
    have hS7 := hS6.below hbl7
    have hT7 := hT6.below hbl7
    have hK7 := hK6.below hbl7
    have hL7 := hL6.below hbl7
    have hB7 := hB6.trans (hbl7.mono hB6.size)
    have hz7 := hbl7.size
    clear hbl7 hx6 hy6 hS6 hT6 hK6 hL6 hB6
    have hci := (canon_iff U).1 hcan
    have HCI := hide hci
    have f1 : eqL S S = true := by simp [eqL]
    have f2 : eqL T T = true := by simp [eqL]
    clear hci
    go_wp2_with fail
    go_loopw [10] (fun i wr => ∃ k : Nat, k ≤ U.length ∧ i = .int .i64 k ∧ Below (w7.heap.size + 1) (w7.alloc (.cells #[.slice a7 U.length c7] 27)) wr) (fun i _ => U.length - (intOf i).toNat)
    case atStart => exact ⟨0, Nat.zero_le _, rfl, Below.refl _ _⟩
    case round =>
      obtain ⟨k, hk, rfl, hbel⟩ := hrel
      have hbox : wr.cell? ⟨w7.heap.size, 0, none⟩ = some (.slice a7 U.length c7) := (hbel.cell (p := ⟨w7.heap.size, 0, none⟩) (by simp)).trans (by simp [go_sem])
      have hbw : Below w7.heap.size w7 wr := ((Below.refl _ _).alloc (Nat.le_refl _) _).trans (hbel.mono (by omega))
      by_cases hlt : k < U.length
      · obtain ⟨b, off, rfl, hb, hc⟩ := hcell7 (by omega)
        obtain ⟨hc0, hc1⟩ := hc.get hbw hb hlt
        obtain ⟨h1, h2⟩ := HCI.out k hlt
        by_cases h0 : k = 0
        · subst h0
          simp only [Nat.zero_mul, Nat.add_zero] at hc0 hc1
          clear hc hcell7 h2
          go_wp2
          go_quiet (fail)
          go_wp2
          go_quiet (fail)
          go_wp2
          go_roundw
          case rel => exact ⟨0 + 1, by omega, by go_num, (by first | exact below_drewN hbel _ | exact below_drewN (below_drewN hbel _) _)⟩
          case measure => simp [intOf]; omega
        · obtain ⟨k', rfl⟩ : ∃ k', k = k' + 1 := ⟨k - 1, by omega⟩
          have hk0 : decide ((0 : Int) < ((k' + 1 : Nat) : Int)) = true := by simp <;> omega
          have hcp := (hc.get hbw hb (show k' < U.length by omega)).2
          have h3 : hiA U k' < loA U (k' + 1) := by simpa using h2 (by omega)
          clear hc hcell7 h2
          go_wp2
          go_quiet (fail)
          go_wp2
          go_quiet (fail)
          go_wp2
          go_roundw
          case rel => exact ⟨k' + 1 + 1, by omega, by go_num, (by first | exact below_drewN hbel _ | exact below_drewN (below_drewN hbel _) _)⟩
          case measure => simp [intOf]; omega
      · have hx8 := (hbw.cell (p := ⟨w2.heap.size, 0, none⟩) (by simp; omega)).trans hx7
        have hy8 := (hbw.cell (p := ⟨w4.heap.size, 0, none⟩) (by simp; omega)).trans hy7
        have hB8 := hB7.trans (hbw.mono hB7.size)
        clear hcell7
        go_wp2_with fail
        refine (eq_bsame _ _ S S _ (hS7.below hbw) (hK7.below hbw)).mono ?_
        rintro e w9 ⟨rfl, hbl9⟩
        rw [f1]
        have hzr := hbw.size
        have hy9 := (hbl9.cell (p := ⟨w4.heap.size, 0, none⟩) (by simp; omega)).trans hy8
        go_wp2_with fail
        refine (eq_bsame _ _ T T _ ((hT7.below hbw).below hbl9) ((hL7.below hbw).below hbl9)).mono ?_
        rintro e w10 ⟨rfl, hbl10⟩
        rw [f2]
        have hB9 := hB8.trans (hbl9.mono hB8.size)
        go_wp2_with fail
        go_ret
        exact ⟨rfl, hB9.trans (hbl10.mono hB9.size)⟩

end Go.Proofs.Ymbrbh
