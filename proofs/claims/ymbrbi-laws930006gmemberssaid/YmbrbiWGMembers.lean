import Derived.Test.YmbrbiWRem
import Derived.Test.YmbrbiWHas
import Derived.Test.YmbrbiLRem
namespace Go.Proofs.Ymbrbi
open Go.RowKit

set_option maxHeartbeats 1000000 in
theorem walk_GMembers (v : Value) (L : List (Int × Int)) (lo hi x : Int) (w : World) (hs : Sl .i64 w v L) (_ : RL .i64 L) (_ : (Lit.int .i64 lo).wf = true) (_ : (Lit.int .i64 hi).wf = true) (_ : (Lit.int .i64 x).wf = true) :
    Calls Ybim.prog 9 #[v, .int .i64 lo, .int .i64 hi, .int .i64 x] w fun e w' => e = .returned (.bool true) ∧ Below w.heap.size w w' := by
  have hs' := hs
  obtain ⟨ao, cap, rfl, hl, hm, hcell⟩ := hs
  clear hcell
  by_cases hbig : 1024 < L.length
  · go_enter Ybim.func9, Ybim.ntmps9
    go_wp2
    go_ret
    exact ⟨rfl, Below.refl _ _⟩
  · have hlaw := hide (has_remove L lo hi x)
    go_enter Ybim.func9, Ybim.ntmps9
    go_wp2_with fail
    refine (rem_any _ L lo hi _ hs' (by omega)).mono ?_
    rintro e w1 ⟨v1, rfl, hsl1, _, hb1⟩
    obtain ⟨a1, n1, c1, hv1⟩ := hsl1.shape
    subst hv1
    have hs1 := hs'.below hb1
    go_wp2_with fail
    refine (has_gin _ L x _ (hs1.alloc _)).mono ?_
    rintro e w2 ⟨rfl, rfl⟩
    obtain ⟨hx, hX⟩ : ∃ b, b = has L x := ⟨_, rfl⟩
    rw [← hX]
    have HX := hide hX
    clear hX
    cases hx
    all_goals
      go_wp2_with fail
      all_goals
        refine (has_gin _ (remove L lo hi) x _ (hsl1.alloc _)).mono ?_
        rintro e w3 ⟨rfl, rfl⟩
        go_wp2_with fail
        go_ret
        refine ⟨ret_bool ?_, hb1.alloc hb1.size _⟩
        rw [hlaw.out, ← HX.out]
        first | (simp; done) | (have h1 : lo ≤ x := by assumption
                                simp [h1]; done) | (have h1 : x < lo := by assumption
                                                    have h2 : decide (lo ≤ x) = false := decide_eq_false (by omega)
                                                    simp [h2]; done)
end Go.Proofs.Ymbrbi
