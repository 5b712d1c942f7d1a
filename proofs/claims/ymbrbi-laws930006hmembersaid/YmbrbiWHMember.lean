import Derived.Test.YmbrbiWFrom
import Derived.Test.YmbrbiWInt
import Derived.Test.YmbrbiWHas
import Derived.Test.YmbrbiThyInt
namespace Go.Proofs.Ymbrbi
open Go.RowKit

set_option maxHeartbeats 1000000 in
theorem walk_HMember (va : Value) (A : List (Int × Int)) (vb : Value) (B : List (Int × Int)) (x : Int) (w : World) (ha : Sl .i64 w va A) (_ : RL .i64 A) (hb : Sl .i64 w vb B) (_ : RL .i64 B) (_ : (Lit.int .i64 x).wf = true) :
    Calls Ybim.prog 12 #[va, vb, .int .i64 x] w fun e w' => e = .returned (.bool true) ∧ Below w.heap.size w w' := by
  have ha' := ha
  have hb' := hb
  obtain ⟨aa, ca, rfl, hla, hma, hca⟩ := ha
  obtain ⟨ab, cb, rfl, hlb, hmb, hcb⟩ := hb
  clear hca hcb
  by_cases hbig : 1024 < A.length
  · go_enter Ybim.func12, Ybim.ntmps12
    go_wp2
    go_ret
    exact ⟨rfl, Below.refl _ _⟩
  by_cases hbig2 : 1024 < B.length
  · go_enter Ybim.func12, Ybim.ntmps12
    go_wp2
    go_ret
    exact ⟨rfl, Below.refl _ _⟩
  · have hfA := fromS_length A
    have hfB := fromS_length B
    have hlaw : Hid (has (inter (fromS A) (fromS B)) x = (has A x && has B x)) := by
      show _ = _
      rw [inter_has (fromS_canon _) (fromS_canon _), fromS_has, fromS_has]
    go_enter Ybim.func12, Ybim.ntmps12
    go_wp2_with fail
    refine (from_any _ A _ ha' (by omega)).mono ?_
    rintro e w3 ⟨v3, rfl, hsl3, _, hbl3⟩
    obtain ⟨a3, n3, c3, hv3⟩ := hsl3.shape
    subst hv3
    have hs23 := hb'.below hbl3
    have hs13 := ha'.below hbl3
    go_wp2_with fail
    refine (from_any _ B _ hs23 (by omega)).mono ?_
    rintro e w4 ⟨v4, rfl, hsl4, _, hbl4⟩
    obtain ⟨a4, n4, c4, hv4⟩ := hsl4.shape
    subst hv4
    have hB4 := hbl3.trans (hbl4.mono hbl3.size)
    have hs34 := hsl3.below hbl4
    have hs24 := hs23.below hbl4
    have hs14 := hs13.below hbl4
    go_wp2_with fail
    refine (int_any _ _ (fromS A) (fromS B) _ hs34 hsl4 (by omega) (by omega)).mono ?_
    rintro e w5 ⟨v5, rfl, hsl5, _, hbl5⟩
    obtain ⟨a5, n5, c5, hv5⟩ := hsl5.shape
    subst hv5
    have hB5 := hB4.trans (hbl5.mono hB4.size)
    have hs15 := (hs14.below hbl5).alloc (.cells #[.slice a5 n5 c5] 24)
    have hs25 := (hs24.below hbl5).alloc (.cells #[.slice a5 n5 c5] 24)
    have hs55 := hsl5.alloc (.cells #[.slice a5 n5 c5] 24)
    have hB6 := hB5.alloc hB5.size (.cells #[.slice a5 n5 c5] 24)
    clear hbl3 hbl4 hbl5 hs13 hs14 hs23 hs24 hs34 hsl3 hsl4 hB4
    go_wp2_with fail
    refine (has_hin _ A x _ hs15).mono ?_
    rintro e w6 ⟨rfl, rfl⟩
    obtain ⟨hx, hX⟩ : ∃ b, b = has A x := ⟨_, rfl⟩
    rw [← hX]
    have HX := hide hX
    clear hX
    cases hx
    · go_wp2_with fail
      refine (has_hin _ (inter (fromS A) (fromS B)) x _ hs55).mono ?_
      rintro e w6 ⟨rfl, rfl⟩
      go_wp2_with fail
      go_ret
      refine ⟨ret_bool ?_, hB6⟩
      rw [hlaw.out, ← HX.out]; simp
    · go_wp2_with fail
      refine (has_hin _ B x _ hs25).mono ?_
      rintro e w6 ⟨rfl, rfl⟩
      go_wp2_with fail
      refine (has_hin _ (inter (fromS A) (fromS B)) x _ hs55).mono ?_
      rintro e w6 ⟨rfl, rfl⟩
      go_wp2_with fail
      go_ret
      refine ⟨ret_bool ?_, hB6⟩
      rw [hlaw.out, ← HX.out]; simp

end Go.Proofs.Ymbrbi
