/-
  What Count, Rank and Select compute, plainly.
-/
import Derived.Test.YmbrbjPlain
import Derived.Test.YmbrbjWSize
import Derived.OpenShut
namespace Go.Proofs.Ymbrbj
open Go.RowKit

def cnt : List (Int × Int) → Int
  | [] => 0
  | p :: R => size p.1 p.2 + cnt R
def rank : List (Int × Int) → Int → Int
  | [], _ => 0
  | p :: R, x => if x < p.2 then size p.1 x else size p.1 p.2 + rank R x
def sel : List (Int × Int) → Int → Int × Bool
  | [], _ => (0, false)
  | p :: R, k => if k < size p.1 p.2 then (p.1 + k, true) else sel R (k - size p.1 p.2)

/-- The remainder in a uint64. -/
def u64 (x : Int) : Int := x % 18446744073709551616

variable {L : List (Int × Int)} {T x : Int} {k : Nat}

theorem u64_range (x : Int) : 0 ≤ IntKind.u64.wrap x ∧ IntKind.u64.wrap x ≤ 18446744073709551615 := by rw [IntKind.wrap_u64]; omega
theorem size_nonneg (a b : Int) : 0 ≤ size a b := by unfold size; split <;> omega
theorem size_range {a b : Int} (h1 : -9223372036854775808 ≤ a) (h2 : b ≤ 9223372036854775807) : 0 ≤ size a b ∧ size a b ≤ 18446744073709551615 := by unfold size; split <;> omega
theorem RL.at (h : RL .i64 L) (hk : k < L.length) : (-9223372036854775808 ≤ loA L k ∧ loA L k ≤ 9223372036854775807) ∧ (-9223372036854775808 ≤ hiA L k ∧ hiA L k ≤ 9223372036854775807) :=
  ⟨bounds_i64 (h _ (pair_mem hk)).1, bounds_i64 (h _ (pair_mem hk)).2⟩

theorem cnt_start : Hid (u64 (cnt L) = u64 (0 + cnt (L.drop 0))) := by show _ = _; simp
theorem cnt_step (h : k < L.length) (he : Hid (u64 (cnt L) = u64 (T + cnt (L.drop k)))) : Hid (u64 (cnt L) = u64 (IntKind.u64.wrap (T + size (loA L k) (hiA L k)) + cnt (L.drop (k + 1)))) := by
  show _ = _
  rw [he.out, drop_cons h, cnt, IntKind.wrap_u64]
  unfold u64; simp only; omega
theorem cnt_end (h : ¬ k < L.length) (h0 : 0 ≤ T) (h1 : T ≤ 18446744073709551615) (he : Hid (u64 (cnt L) = u64 (T + cnt (L.drop k)))) : T = u64 (cnt L) := by
  rw [he.out, drop_end h, cnt]
  unfold u64; omega

theorem rank_start : Hid (u64 (rank L x) = u64 (0 + rank (L.drop 0) x)) := by show _ = _; simp
theorem rank_step (h : k < L.length) (hx : hiA L k ≤ x) (he : Hid (u64 (rank L x) = u64 (T + rank (L.drop k) x))) : Hid (u64 (rank L x) = u64 (IntKind.u64.wrap (T + size (loA L k) (hiA L k)) + rank (L.drop (k + 1)) x)) := by
  show _ = _
  rw [he.out, drop_cons h, rank, if_neg (by simp; omega), IntKind.wrap_u64]
  unfold u64; simp only; omega
theorem rank_hit (h : k < L.length) (hx : x < hiA L k) (he : Hid (u64 (rank L x) = u64 (T + rank (L.drop k) x))) : IntKind.u64.wrap (T + size (loA L k) x) = u64 (rank L x) := by
  rw [he.out, drop_cons h, rank, if_pos (by simpa using hx), IntKind.wrap_u64]; rfl
theorem rank_end (h : ¬ k < L.length) (h0 : 0 ≤ T) (h1 : T ≤ 18446744073709551615) (he : Hid (u64 (rank L x) = u64 (T + rank (L.drop k) x))) : T = u64 (rank L x) := by
  rw [he.out, drop_end h, rank]
  unfold u64; omega

theorem sel_step {j : Int} (h : k < L.length) (hx : size (loA L k) (hiA L k) ≤ T) (he : Hid (sel L j = sel (L.drop k) T)) : Hid (sel L j = sel (L.drop (k + 1)) (T - size (loA L k) (hiA L k))) := by
  show _ = _
  rw [he.out, drop_cons h, sel, if_neg (by simp; omega)]
theorem sel_hit {j : Int} (h : k < L.length) (hx : T < size (loA L k) (hiA L k)) (he : Hid (sel L j = sel (L.drop k) T)) : sel L j = (loA L k + T, true) := by
  rw [he.out, drop_cons h, sel, if_pos (by simpa using hx)]
theorem sel_end {j : Int} (h : ¬ k < L.length) (he : Hid (sel L j = sel (L.drop k) T)) : sel L j = (0, false) := by
  rw [he.out, drop_end h, sel]
theorem sel_conv {lo hi : Int} (h1 : -9223372036854775808 ≤ lo) (h2 : hi ≤ 9223372036854775807) (h3 : 0 ≤ T) (h4 : T < size lo hi) : wrap64 (IntKind.u64.wrap (IntKind.u64.wrap lo + T)) = lo + T := by
  have : lo + T < hi ∧ lo < hi := by unfold size at h4; split at h4 <;> omega
  rw [IntKind.wrap_u64, IntKind.wrap_u64]; unfold wrap64; omega

end Go.Proofs.Ymbrbj
