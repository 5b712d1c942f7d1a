import Derived.Test.YmbrbhWSize
import Derived.OpenShut
namespace Go.Proofs.Ymbrbh
open Go.RowKit

theorem room_eq {lo : Int} (h1 : -9223372036854775808 ≤ lo) (h2 : lo ≤ 9223372036854775807) : IntKind.u64.wrap (9223372036854775807 - IntKind.u64.wrap lo) = 9223372036854775807 - lo := by
  rw [IntKind.wrap_u64, IntKind.wrap_u64]; omega
theorem end_eq {lo n : Int} (h1 : -9223372036854775808 ≤ lo) (h2 : lo ≤ 9223372036854775807) (h3 : 0 ≤ n) (h4 : n ≤ 9223372036854775807 - lo) : IntKind.i64.wrap (IntKind.u64.wrap (IntKind.u64.wrap lo + n)) = lo + n := by
  rw [IntKind.wrap_u64, IntKind.wrap_u64, IntKind.wrap_i64]; omega

theorem end_eq' {lo n : Int} (h1 : -9223372036854775808 ≤ lo) (h2 : lo ≤ 9223372036854775807) (h3 : 0 ≤ n) (h4 : n ≤ 9223372036854775807 - lo) : wrap64 (IntKind.u64.wrap (IntKind.u64.wrap lo + n)) = lo + n := by
  rw [IntKind.wrap_u64, IntKind.wrap_u64]; unfold wrap64; omega
theorem size_back {lo n : Int} (h : 0 ≤ n) : size (lo + n) lo = 0 := by unfold size; rw [if_pos (by omega)]
theorem size_on {lo n : Int} (h : 0 ≤ n) : size lo (lo + n) = n := by unfold size; split <;> omega

set_option maxHeartbeats 400000 in
theorem walk_COffset (lo n : Int) (w : World) (w0 : (Lit.int .i64 lo).wf = true) (w1 : (Lit.int .u64 n).wf = true) :
    Calls Ybhm.prog 10 #[.int .i64 lo, .int .u64 n] w fun e w' => e = .returned (.bool true) ∧ Below w.heap.size w w' := by
  obtain ⟨a1, a2⟩ := bounds_i64 w0
  obtain ⟨b1, b2⟩ := bounds_u64 w1
  clear w0 w1
  have hroom := room_eq a1 a2
  rcases Int.lt_or_le (9223372036854775807 - lo) n with hn | hn
  · have c1 : 0 ≤ n % (9223372036854775807 - lo + 1) := Int.emod_nonneg _ (by omega)
    have c2 : n % (9223372036854775807 - lo + 1) ≤ 9223372036854775807 - lo := by have := Int.emod_lt_of_pos n (show 0 < 9223372036854775807 - lo + 1 by omega); omega
    obtain ⟨m, hm⟩ : ∃ m, n % (9223372036854775807 - lo + 1) = m := ⟨_, rfl⟩
    rw [hm] at c1 c2
    have he := end_eq' a1 a2 c1 c2
    have s0 := size_back (lo := lo) c1
    have s1 := size_on (lo := lo) c1
    go_enter Ybhm.func10, Ybhm.ntmps10
    go_wp2_with fail
    refine (size_any _ _ _ (by omega) (by omega)).mono ?_
    rintro e w1 ⟨rfl, rfl⟩
    go_wp2_with fail
    refine (size_any _ _ _ (by omega) (by omega)).mono ?_
    rintro e w1 ⟨rfl, rfl⟩
    go_wp2_with fail
    go_ret
    exact ⟨ret_bool (by simp), ((Below.refl _ _).alloc (Nat.le_refl _) _).alloc (by simp) _⟩
  · have he := end_eq' a1 a2 b1 hn
    have s0 := size_back (lo := lo) b1
    have s1 := size_on (lo := lo) b1
    go_enter Ybhm.func10, Ybhm.ntmps10
    go_wp2_with fail
    refine (size_any _ _ _ (by omega) (by omega)).mono ?_
    rintro e w1 ⟨rfl, rfl⟩
    go_wp2_with fail
    refine (size_any _ _ _ (by omega) (by omega)).mono ?_
    rintro e w1 ⟨rfl, rfl⟩
    go_wp2_with fail
    go_ret
    exact ⟨ret_bool (by simp), ((Below.refl _ _).alloc (Nat.le_refl _) _).alloc (by simp) _⟩
end Go.Proofs.Ymbrbh
