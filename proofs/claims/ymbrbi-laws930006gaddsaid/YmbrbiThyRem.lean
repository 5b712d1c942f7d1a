/-
  Remove keeps a list canonical. No program in sight.
-/
import Derived.Test.YmbrbiThy
import Derived.Test.YmbrbiLRem
namespace Go.Proofs.Ymbrbi

theorem remF_can {lo hi : Int} (hx : lo < hi) : ∀ (L : List (Int × Int)) (h : Int), Can h L → Can h (remF lo hi L) := by
  intro L
  induction L with
  | nil => intro h _; exact trivial
  | cons p R ih =>
    intro h hc
    obtain ⟨h1, h2, h3⟩ := hc
    have hR := ih p.2 h3
    rw [remF, remP]
    by_cases c1 : p.1 < lo <;> by_cases c3 : hi < p.2 <;> simp only [c1, c3, if_true, if_false, List.nil_append, List.append_nil, List.cons_append]
    · refine ⟨h1, ?_, ?_, ?_, hR⟩
      · show p.1 < if lo < p.2 then lo else p.2; split <;> omega
      · show (if lo < p.2 then lo else p.2) < if p.1 < hi then hi else p.1; split <;> split <;> omega
      · show (if p.1 < hi then hi else p.1) < p.2; split <;> omega
    · refine ⟨h1, ?_, hR.mono ?_⟩
      · show p.1 < if lo < p.2 then lo else p.2; split <;> omega
      · show (if lo < p.2 then lo else p.2) ≤ p.2; split <;> omega
    · refine ⟨?_, ?_, hR⟩
      · show h < if p.1 < hi then hi else p.1; split <;> omega
      · show (if p.1 < hi then hi else p.1) < p.2; split <;> omega
    · exact hR.mono (by omega)
theorem remove_canon {L : List (Int × Int)} (hc : canon L = true) (lo hi : Int) : canon (remove L lo hi) = true := by
  unfold remove
  split
  · exact hc
  · obtain ⟨h, hh⟩ := can_ex hc
    exact (remF_can (by omega) L h hh).canon

theorem rem_add {L : List (Int × Int)} (hc : canon L = true) (lo hi : Int) : remove (add L lo hi) lo hi = remove L lo hi := by
  refine canon_unique (remove_canon (add_canon hc _ _) _ _) (remove_canon hc _ _) fun x => ?_
  rw [has_remove, has_remove, add_has_eq hc]
  cases has L x <;> cases (decide (lo ≤ x) && decide (x < hi)) <;> rfl
theorem add_rem {L : List (Int × Int)} (hc : canon L = true) (lo hi : Int) : add (remove L lo hi) lo hi = add L lo hi := by
  refine canon_unique (add_canon (remove_canon hc _ _) _ _) (add_canon hc _ _) fun x => ?_
  rw [add_has_eq (remove_canon hc _ _), add_has_eq hc, has_remove]
  cases has L x <;> cases (decide (lo ≤ x) && decide (x < hi)) <;> rfl
theorem remove_same {L : List (Int × Int)} {lo hi : Int} (h : hi ≤ lo) : remove L lo hi = L := by rw [remove, if_pos h]

end Go.Proofs.Ymbrbi
