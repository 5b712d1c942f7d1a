/-
  The plain law of Remove's members.
-/
import Derived.Test.YmbrbiPRem
namespace Go.Proofs.Ymbrbi

theorem has_append (A B : List (Int × Int)) (x : Int) : has (A ++ B) x = (has A x || has B x) := by
  induction A with
  | nil => simp [has]
  | cons p R ih => simp [has, ih, Bool.or_assoc]
theorem has_iff (L : List (Int × Int)) (x : Int) : has L x = true ↔ ∃ p ∈ L, p.1 ≤ x ∧ x < p.2 := by
  induction L with
  | nil => simp [has]
  | cons p R ih => simp [has, ih]

theorem has_remP {lo hi : Int} (h : lo < hi) (p : Int × Int) (x : Int) : has (remP lo hi p) x = ((decide (p.1 ≤ x) && decide (x < p.2)) && !(decide (lo ≤ x) && decide (x < hi))) := by
  rw [Bool.eq_iff_iff]
  unfold remP
  by_cases c1 : p.1 < lo <;> by_cases c3 : hi < p.2 <;> simp only [c1, c3, if_true, if_false, has, List.nil_append, List.append_nil, List.cons_append, Bool.or_false, Bool.and_eq_true, Bool.or_eq_true, decide_eq_true_eq, Bool.not_eq_true', Bool.and_eq_false_iff, decide_eq_false_iff_not] <;> (try split) <;> (try split) <;> (try simp only [Bool.false_eq_true, false_iff]) <;> omega
theorem has_remF {lo hi : Int} (h : lo < hi) (L : List (Int × Int)) (x : Int) : has (remF lo hi L) x = (has L x && !(decide (lo ≤ x) && decide (x < hi))) := by
  induction L with
  | nil => simp [remF, has]
  | cons p R ih => rw [remF, has_append, has_remP h, ih, has]; cases (decide (lo ≤ x) && decide (x < hi)) <;> simp
theorem has_remove (L : List (Int × Int)) (lo hi x : Int) : has (remove L lo hi) x = (has L x && !(decide (lo ≤ x) && decide (x < hi))) := by
  unfold remove
  split
  · rename_i h
    have : (decide (lo ≤ x) && decide (x < hi)) = false := by rw [Bool.eq_false_iff]; simp; omega
    rw [this]; simp
  · exact has_remF (by omega) L x

end Go.Proofs.Ymbrbi
