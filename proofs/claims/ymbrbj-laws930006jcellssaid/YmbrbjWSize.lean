import Derived.Test.YmbrbjProg
import Derived.Test.YmbrbjBase
namespace Go.Proofs.Ymbrbj
open Go.RowKit

/-- Size, plainly. -/
def size (lo hi : Int) : Int := if hi ≤ lo then 0 else hi - lo

theorem size_wrap {lo hi : Int} (h1 : -9223372036854775808 ≤ lo) (h2 : hi ≤ 9223372036854775807) (h : lo < hi) : IntKind.u64.wrap (IntKind.u64.wrap hi - IntKind.u64.wrap lo) = size lo hi := by
  rw [size, if_neg (by omega), IntKind.wrap_u64, IntKind.wrap_u64, IntKind.wrap_u64]
  omega

set_option maxHeartbeats 400000 in
theorem size_any (lo hi : Int) (w : World) (h1 : -9223372036854775808 ≤ lo) (h2 : hi ≤ 9223372036854775807) :
    Calls Ybjm.prog 28 #[.agg #[.int .i64 lo, .int .i64 hi]] w fun e w' => e = .returned (.int .u64 (size lo hi)) ∧ w' = w.alloc (.cells #[.int .i64 lo, .int .i64 hi] 28) := by
  rcases Int.lt_or_le lo hi with h | h
  case inr =>
    go_enter Ybjm.func28, Ybjm.ntmps28
    go_wp2
    go_ret
    exact ⟨ret_int (by rw [size, if_pos h]), rfl⟩
  case inl =>
    go_enter Ybjm.func28, Ybjm.ntmps28
    go_wp2
    go_ret
    exact ⟨ret_int (size_wrap h1 h2 h), rfl⟩
end Go.Proofs.Ymbrbj
