import Derived.Test.YmbrbhWABuild
import Derived.Test.YmbrbhWAdd
import Derived.Test.YmbrbhWHas
namespace Go.Proofs.Ymbrbh
open Go.RowKit

set_option maxHeartbeats 1000000 in
theorem walk_AMembers (st : Int) (v : Value) (S : List (Int × Int)) (lo hi x : Int) (w : World) (w0 : (Lit.int .i64 st).wf = true) (hs : Sl .u64 w v S) (hr : RL .u64 S) (_ : (Lit.int .i64 lo).wf = true) (_ : (Lit.int .i64 hi).wf = true) (_ : (Lit.int .i64 x).wf = true) :
    Calls Ybhm.prog 3 #[.int .i64 st, v, .int .i64 lo, .int .i64 hi, .int .i64 x] w fun e w' => e = .returned (.bool true) ∧ Below w.heap.size w w' := by
  obtain ⟨a1, a2⟩ := bounds_i64 w0
  clear w0
  have hs' := hs
  obtain ⟨ao, cap, rfl, hl, hm, hcell⟩ := hs
  clear hcell
  by_cases hbig : 1024 < S.length
  · go_enter Ybhm.func3, Ybhm.ntmps3
    go_wp2
    go_ret
    exact ⟨rfl, Below.refl _ _⟩
  · have hlen := buildA_length S st
    have hlaw := hide (add_has_eq (buildA_canon hr st) lo hi x)
    go_enter Ybhm.func3, Ybhm.ntmps3
    go_wp2_with fail
    refine (abuild_any st _ S _ a1 a2 hs' hr (by omega)).mono ?_
    rintro e w1 ⟨v1, rfl, hsl1, _, hb1⟩
    generalize buildA st S = M at *
    obtain ⟨a3, n1, c1, hv1⟩ := hsl1.shape
    subst hv1
    go_wp2_with fail
    refine (has_ahas _ M x _ hsl1).mono ?_
    rintro e w2 ⟨rfl, rfl⟩
    obtain ⟨hx, hX⟩ : ∃ b, b = has M x := ⟨_, rfl⟩
    rw [← hX]
    have HX := hide hX
    clear hX
    cases hx
    all_goals
      go_wp2_with fail
      all_goals
        refine (add_any _ M lo hi _ hsl1 (by omega)).mono ?_
        rintro e w3 ⟨v3, rfl, hsl3, _, hb3⟩
        obtain ⟨a4, n3, c3, hv3⟩ := hsl3.shape
        subst hv3
        have hb3' := hb1.trans (hb3.mono hb1.size)
        go_wp2_with fail
        refine (has_ahas _ (add M lo hi) x _ (hsl3.alloc _)).mono ?_
        rintro e w4 ⟨rfl, rfl⟩
        go_wp2_with fail
        go_ret
        refine ⟨ret_bool ?_, hb3'.alloc hb3'.size _⟩
        rw [hlaw.out, ← HX.out]
        first | (simp; done) | (have h1 : lo ≤ x := by assumption
                                simp [h1]; done) | (have h1 : x < lo := by assumption
                                                    have h2 : decide (lo ≤ x) = false := decide_eq_false (by omega)
                                                    simp [h2]; done)
end Go.Proofs.Ymbrbh
