/-
  Count of what Add makes; the greatest member; the least member not below x. Plain.
-/
import Derived.Test.YmbrbjThyCnt
namespace Go.Proofs.Ymbrbj

theorem cnt_add {S : List (Int × Int)} (hr : RL .i64 S) (hc : canon S = true) {lo hi : Int} (h : lo ≤ hi) (h1 : (Lit.int .i64 lo).wf = true) (h2 : (Lit.int .i64 hi).wf = true) :
    cnt (add S lo hi) = cnt S + (hi - lo) - (rank S hi - rank S lo) := by
  have hT : RL .i64 (add S lo hi) := add_all (P := fun x => (Lit.int .i64 x).wf = true) hr h1 h2
  have hcT := add_canon hc lo hi
  obtain ⟨b1, b2⟩ := bounds_i64 h1
  obtain ⟨b3, b4⟩ := bounds_i64 h2
  have cS := hr.can hc
  have cT := hT.can hcT
  have t0 : rank (add S lo hi) (-9223372036854775808) = 0 := rank_low cT (by omega)
  have s0 : rank S (-9223372036854775808) = 0 := rank_low cS (by omega)
  have t1 : rank (add S lo hi) 9223372036854775807 = cnt (add S lo hi) := rank_top fun p hp => (hT.i64 p hp).2.2
  have s1 : rank S 9223372036854775807 = cnt S := rank_top fun p hp => (hr.i64 p hp).2.2
  obtain ⟨n1, e1⟩ := Int.eq_ofNat_of_zero_le (show 0 ≤ lo - (-9223372036854775808) by omega)
  obtain ⟨n2, e2⟩ := Int.eq_ofNat_of_zero_le (show 0 ≤ hi - lo by omega)
  obtain ⟨n3, e3⟩ := Int.eq_ofNat_of_zero_le (show 0 ≤ 9223372036854775807 - hi by omega)
  have r1 := rank_step_same cS cT (-9223372036854775808) n1 fun x a b => by
    rw [add_has_eq hc]
    have : decide (lo ≤ x) = false := decide_eq_false (by omega)
    simp [this]
  have r2 := rank_step_all cT lo n2 fun x a b => by rw [add_has hc]; exact .inr ⟨a, by omega⟩
  have r3 := rank_step_same cS cT hi n3 fun x a b => by
    rw [add_has_eq hc]
    have : decide (x < hi) = false := decide_eq_false (by omega)
    simp [this]
  rw [show -9223372036854775808 + (n1 : Int) = lo by omega] at r1
  rw [show lo + (n2 : Int) = hi by omega] at r2
  rw [show hi + (n3 : Int) = 9223372036854775807 by omega] at r3
  omega

/-- The member of rank cnt - 1 is the greatest. -/
theorem sel_last {S : List (Int × Int)} {h : Int} (hs : Can h S) (h0 : 0 < cnt S) {top : Int} (ht : has S top = true) (hb : ∀ x, has S x = true → x ≤ top) : sel S (cnt S - 1) = (top, true) := by
  obtain ⟨v, e1, e2, e3⟩ := sel_some hs (show 0 ≤ cnt S - 1 by omega) (by omega)
  have h1 := hb v e2
  have : v = top := by
    rcases Int.lt_or_le v top with c | c
    · have g1 := rank_member hs e2 c
      have g2 := rank_member hs ht (show top < top + 1 by omega)
      have g3 := rank_le (top + 1) S
      omega
    · omega
  rw [e1, this]
theorem cnt_pos {S : List (Int × Int)} {h : Int} (hs : Can h S) : 0 < cnt S ↔ ∃ x, has S x = true := by
  constructor
  · intro h0
    obtain ⟨v, _, e2, _⟩ := sel_some hs (Int.le_refl 0) h0
    exact ⟨v, e2⟩
  · rintro ⟨x, hx⟩
    have g1 := rank_member hs hx (show x < x + 1 by omega)
    have g2 := rank_le (x + 1) S
    have g3 := rank_nonneg x S
    omega

/-- Select of Rank of x: the least member not below x. -/
theorem sel_rank {S : List (Int × Int)} {h x y : Int} (hs : Can h S) (hy : has S y = true) (hxy : x ≤ y) (hl : ∀ z, has S z = true → x ≤ z → y ≤ z) : sel S (rank S x) = (y, true) := by
  have e : rank S y = rank S x := by
    obtain ⟨n, hn⟩ := Int.eq_ofNat_of_zero_le (show 0 ≤ y - x by omega)
    have := rank_step_same (S := []) (T := S) (h := 0) trivial hs x n fun z a b => by
      rw [has_nil]
      cases hz : has S z with
      | false => rfl
      | true => have := hl z hz a; omega
    rw [show x + (n : Int) = y by omega] at this
    simp [rank] at this
    omega
  have g1 := rank_member hs hy (show y < y + 1 by omega)
  have g2 := rank_le (y + 1) S
  obtain ⟨v, e1, e2, e3⟩ := sel_some hs (rank_nonneg x S) (show rank S x < cnt S by omega)
  rw [e1, rank_inj hs e2 hy (by omega)]
theorem sel_rank_none {S : List (Int × Int)} {x : Int} (hl : ∀ p ∈ S, p.2 ≤ x) : sel S (rank S x) = (0, false) := sel_none (by rw [rank_top hl]; exact Int.le_refl _)

end Go.Proofs.Ymbrbj
