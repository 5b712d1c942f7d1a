import Derived.Test.YmbrbhWSize
import Derived.OpenShut
namespace Go.Proofs.Ymbrbh
open Go.RowKit

set_option maxHeartbeats 400000 in
theorem cdist_any (lo hi : Int) (w : World) (a1 : -9223372036854775808 ≤ lo) (a2 : lo ≤ 9223372036854775807) (b1 : -9223372036854775808 ≤ hi) (b2 : hi ≤ 9223372036854775807) :
    Calls Ybhm.prog 27 #[.int .i64 lo, .int .i64 hi] w fun e w' => e = .returned (.int .u64 (size lo hi)) ∧ w' = w := by
  rcases Int.lt_or_le lo hi with h | h
  case inr =>
    go_enter Ybhm.func27, Ybhm.ntmps27
    go_wp2
    go_ret
    exact ⟨ret_int (by rw [size, if_pos h]), rfl⟩
  case inl =>
    rcases Int.lt_or_le lo 0 with h0 | h0
    · rcases Int.lt_or_le hi 0 with h3 | h3
      · go_enter Ybhm.func27, Ybhm.ntmps27
        go_wp2
        go_ret
        exact ⟨ret_int (by rw [size, if_neg (by omega)]; try omega), rfl⟩
      · go_enter Ybhm.func27, Ybhm.ntmps27
        go_wp2
        go_ret
        exact ⟨ret_int (by rw [size, if_neg (by omega)]; try omega), rfl⟩
    · go_enter Ybhm.func27, Ybhm.ntmps27
      go_wp2
      go_ret
      exact ⟨ret_int (by rw [size, if_neg (by omega)]; try omega), rfl⟩

set_option maxHeartbeats 400000 in
theorem walk_CExact (lo hi : Int) (w : World) (w0 : (Lit.int .i64 lo).wf = true) (w1 : (Lit.int .i64 hi).wf = true) :
    Calls Ybhm.prog 9 #[.int .i64 lo, .int .i64 hi] w fun e w' => e = .returned (.bool true) ∧ Below w.heap.size w w' := by
  obtain ⟨a1, a2⟩ := bounds_i64 w0
  obtain ⟨b1, b2⟩ := bounds_i64 w1
  clear w0 w1
  go_enter Ybhm.func9, Ybhm.ntmps9
  go_wp2_with fail
  refine (size_any _ _ _ (by omega) (by omega)).mono ?_
  rintro e w1 ⟨rfl, rfl⟩
  go_wp2_with fail
  refine (cdist_any _ _ _ (by omega) (by omega) (by omega) (by omega)).mono ?_
  rintro e w1 ⟨rfl, rfl⟩
  go_wp2_with fail
  go_ret
  exact ⟨ret_bool (by simp), ((Below.refl _ _).alloc (Nat.le_refl _) _).alloc (by simp) _⟩
end Go.Proofs.Ymbrbh
