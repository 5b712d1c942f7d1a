import Derived.Test.YmbrbhWFrom
import Derived.Test.YmbrbhWBorder
import Derived.Test.YmbrbhWUni
import Derived.Test.YmbrbhWHas
namespace Go.Proofs.Ymbrbh
open Go.RowKit

set_option maxHeartbeats 1000000 in
theorem walk_BMember (va : Value) (A : List (Int × Int)) (vb : Value) (B : List (Int × Int)) (x : Int) (w : World) (ha : Sl .i64 w va A) (_ : RL .i64 A) (hb : Sl .i64 w vb B) (_ : RL .i64 B) (_ : (Lit.int .i64 x).wf = true) :
    Calls Ybhm.prog 6 #[va, vb, .int .i64 x] w fun e w' => e = .returned (.bool true) ∧ Below w.heap.size w w' := by
  have ha' := ha
  have hb' := hb
  obtain ⟨aa, ca, rfl, hla, hma, hca⟩ := ha
  obtain ⟨ab, cb, rfl, hlb, hmb, hcb⟩ := hb
  clear hca hcb
  by_cases hbig : 512 < A.length
  · go_enter Ybhm.func6, Ybhm.ntmps6
    go_wp2
    go_ret
    exact ⟨rfl, Below.refl _ _⟩
  by_cases hbig2 : 512 < B.length
  · go_enter Ybhm.func6, Ybhm.ntmps6
    go_wp2
    go_ret
    exact ⟨rfl, Below.refl _ _⟩
  · have hlA := borderL_length A
    have hlB := borderL_length B
    have hfA := fromS_length (borderL A)
    have hfB := fromS_length (borderL B)
    have hlaw : Hid (has (uni (fromS (borderL A)) (fromS (borderL B))) x = (has (borderL A) x || has (borderL B) x)) := by
      show _ = _
      rw [Bool.eq_iff_iff, (uni_thy (fromS_canon _) (fromS_canon _)).2 x, fromS_has, fromS_has, Bool.or_eq_true]
    have hb1 : (borderL A).length ≤ 512 := by omega
    have hb2 : (borderL B).length ≤ 512 := by omega
    clear hlA hlB
    go_enter Ybhm.func6, Ybhm.ntmps6
    go_wp2_with fail
    refine (border_any _ A _ ha' (by omega)).mono ?_
    rintro e w1 ⟨v1, rfl, hsl1, _, hbl1⟩
    obtain ⟨a1, n1, c1, hv1⟩ := hsl1.shape
    subst hv1
    go_wp2_with fail
    refine (border_any _ B _ (hb'.below hbl1) (by omega)).mono ?_
    rintro e w2 ⟨v2, rfl, hsl2, _, hbl2⟩
    obtain ⟨a2, n2, c2, hv2⟩ := hsl2.shape
    subst hv2
    have hs12 := hsl1.below hbl2
    have hB2 := hbl1.trans (hbl2.mono hbl1.size)
    generalize borderL A = P at *
    generalize borderL B = Q at *
    go_wp2_with fail
    refine (from_any _ P _ hs12 (by omega)).mono ?_
    rintro e w3 ⟨v3, rfl, hsl3, _, hbl3⟩
    obtain ⟨a3, n3, c3, hv3⟩ := hsl3.shape
    subst hv3
    have hB3 := hB2.trans (hbl3.mono hB2.size)
    have hs23 := hsl2.below hbl3
    have hs13 := hs12.below hbl3
    go_wp2_with fail
    refine (from_any _ Q _ hs23 (by omega)).mono ?_
    rintro e w4 ⟨v4, rfl, hsl4, _, hbl4⟩
    obtain ⟨a4, n4, c4, hv4⟩ := hsl4.shape
    subst hv4
    have hB4 := hB3.trans (hbl4.mono hB3.size)
    have hs34 := hsl3.below hbl4
    have hs24 := hs23.below hbl4
    have hs14 := hs13.below hbl4
    go_wp2_with fail
    refine (uni_any _ _ (fromS P) (fromS Q) _ hs34 hsl4 (by omega) (by omega)).mono ?_
    rintro e w5 ⟨v5, rfl, hsl5, _, hbl5⟩
    obtain ⟨a5, n5, c5, hv5⟩ := hsl5.shape
    subst hv5
    have hB5 := hB4.trans (hbl5.mono hB4.size)
    have hs15 := (hs14.below hbl5).alloc (.cells #[.slice a5 n5 c5] 27)
    have hs25 := (hs24.below hbl5).alloc (.cells #[.slice a5 n5 c5] 27)
    have hs55 := hsl5.alloc (.cells #[.slice a5 n5 c5] 27)
    have hB6 := hB5.alloc hB5.size (.cells #[.slice a5 n5 c5] 27)
    clear hbl1 hbl2 hbl3 hbl4 hbl5 hs12 hs13 hs14 hs23 hs24 hs34 hsl1 hsl2 hsl3 hsl4 hB2 hB3 hB4
    go_wp2_with fail
    refine (has_bin _ P x _ hs15).mono ?_
    rintro e w6 ⟨rfl, rfl⟩
    obtain ⟨hx, hX⟩ : ∃ b, b = has P x := ⟨_, rfl⟩
    rw [← hX]
    have HX := hide hX
    clear hX
    cases hx
    · go_wp2_with fail
      refine (has_bin _ Q x _ hs25).mono ?_
      rintro e w6 ⟨rfl, rfl⟩
      go_wp2_with fail
      refine (has_bin _ (uni (fromS P) (fromS Q)) x _ hs55).mono ?_
      rintro e w6 ⟨rfl, rfl⟩
      go_wp2_with fail
      go_ret
      refine ⟨ret_bool ?_, hB6⟩
      rw [hlaw.out, ← HX.out]; simp
    · go_wp2_with fail
      refine (has_bin _ (uni (fromS P) (fromS Q)) x _ hs55).mono ?_
      rintro e w6 ⟨rfl, rfl⟩
      go_wp2_with fail
      go_ret
      refine ⟨ret_bool ?_, hB6⟩
      rw [hlaw.out, ← HX.out]; simp

end Go.Proofs.Ymbrbh
