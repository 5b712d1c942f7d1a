import Derived.Test.YmbrbjWFrom
import Derived.Test.YmbrbjWHas
import Derived.Test.YmbrbjThy
namespace Go.Proofs.Ymbrbj
open Go.RowKit

set_option maxHeartbeats 1000000 in
theorem walk_IMember (v : Value) (L : List (Int × Int)) (x : Int) (w : World) (hs : Sl .i64 w v L) (_ : RL .i64 L) (_ : (Lit.int .i64 x).wf = true) :
    Calls Ybjm.prog 3 #[v, .int .i64 x] w fun e w' => e = .returned (.bool true) ∧ Below w.heap.size w w' := by
  have hs' := hs
  obtain ⟨ao, cap, rfl, hl, hm, hcell⟩ := hs
  clear hcell
  by_cases hbig : 1024 < L.length
  · go_enter Ybjm.func3, Ybjm.ntmps3
    go_wp2
    go_ret
    exact ⟨rfl, Below.refl _ _⟩
  · have hlaw := hide (fromS_has L x)
    go_enter Ybjm.func3, Ybjm.ntmps3
    go_wp2_with fail
    refine (from_any _ L _ hs' (by omega)).mono ?_
    rintro e w1 ⟨v1, rfl, hsl1, _, hb1⟩
    obtain ⟨a1, n1, c1, hv1⟩ := hsl1.shape
    subst hv1
    go_wp2_with fail
    refine (has_iin _ (fromS L) x _ (hsl1.alloc _)).mono ?_
    rintro e w2 ⟨rfl, rfl⟩
    go_wp2_with fail
    refine (has_iin _ L x _ ((hs'.below hb1).alloc _)).mono ?_
    rintro e w2 ⟨rfl, rfl⟩
    go_wp2_with fail
    go_ret
    exact ⟨ret_bool (by rw [hlaw.out]; simp), hb1.alloc hb1.size _⟩

end Go.Proofs.Ymbrbj
