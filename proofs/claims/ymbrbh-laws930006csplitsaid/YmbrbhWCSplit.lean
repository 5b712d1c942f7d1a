import Derived.Test.YmbrbhWSize
import Derived.OpenShut
namespace Go.Proofs.Ymbrbh
open Go.RowKit

theorem size_le {a b : Int} (h : a ≤ b) : size a b = b - a := by unfold size; split <;> omega

theorem size_up (lo hi : Int) (w : World) (h1 : -9223372036854775808 ≤ lo) (h2 : hi ≤ 9223372036854775807) (h : lo ≤ hi) :
    Calls Ybhm.prog 26 #[.agg #[.int .i64 lo, .int .i64 hi]] w fun e w' => e = .returned (.int .u64 (hi - lo)) ∧ w' = w.alloc (.cells #[.int .i64 lo, .int .i64 hi] 34) := by
  have := size_any lo hi w h1 h2
  rwa [size_le h] at this

set_option maxHeartbeats 1000000 in
theorem walk_CSplit (a b c : Int) (w : World) (w0 : (Lit.int .i64 a).wf = true) (w1 : (Lit.int .i64 b).wf = true) (w2 : (Lit.int .i64 c).wf = true) :
    Calls Ybhm.prog 11 #[.int .i64 a, .int .i64 b, .int .i64 c] w fun e w' => e = .returned (.bool true) ∧ Below w.heap.size w w' := by
  obtain ⟨a1, a2⟩ := bounds_i64 w0
  obtain ⟨b1, b2⟩ := bounds_i64 w1
  obtain ⟨c1, c2⟩ := bounds_i64 w2
  clear w0 w1 w2
  have hq : ∀ x y : Int, (y - x == 0) = (x == y) := fun x y => by rw [Bool.eq_iff_iff]; simp; omega
  go_enter Ybhm.func11, Ybhm.ntmps11
  go_wp2_with fail
  all_goals
    refine (size_up _ _ _ (by omega) (by omega) (by omega)).mono ?_
    rintro e w1 ⟨rfl, rfl⟩
    go_wp2_with fail
    refine (size_up _ _ _ (by omega) (by omega) (by omega)).mono ?_
    rintro e w1 ⟨rfl, rfl⟩
    go_wp2_with fail
    refine (size_up _ _ _ (by omega) (by omega) (by omega)).mono ?_
    rintro e w1 ⟨rfl, rfl⟩
    go_wp2_with fail
    go_ret
    exact ⟨ret_bool (by simp; omega), (((Below.refl _ _).alloc (Nat.le_refl _) _).alloc (by simp) _).alloc (by simp; omega) _⟩
end Go.Proofs.Ymbrbh
