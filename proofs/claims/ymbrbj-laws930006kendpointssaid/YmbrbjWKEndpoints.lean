import Derived.Test.YmbrbjWCanon
import Derived.Test.YmbrbjLCanon
namespace Go.Proofs.Ymbrbj
open Go.RowKit

/-- The k-th endpoint. -/
def endA (L : List (Int × Int)) (k : Nat) : Int := if k % 2 = 0 then loA L (k / 2) else hiA L (k / 2)
/-- Do the first k endpoints strictly increase? -/
def incr (L : List (Int × Int)) : Nat → Bool
  | 0 => true
  | k + 1 => incr L k && (decide (k = 0) || decide (endA L (k - 1) < endA L k))

theorem incr_iff (L : List (Int × Int)) (k : Nat) : incr L k = true ↔ ∀ j, j < k → 0 < j → endA L (j - 1) < endA L j := by
  induction k with
  | zero => simp [incr]
  | succ k ih =>
    rw [incr, Bool.and_eq_true, ih, Bool.or_eq_true, decide_eq_true_eq, decide_eq_true_eq]
    constructor
    · rintro ⟨h1, h2⟩ j hj h0
      by_cases e : j = k
      · subst e; rcases h2 with h2 | h2
        · omega
        · exact h2
      · exact h1 j (by omega) h0
    · intro h
      refine ⟨fun j hj h0 => h j (by omega) h0, ?_⟩
      by_cases e : k = 0
      · exact .inl e
      · exact .inr (h k (by omega) (by omega))

theorem incr_canon (L : List (Int × Int)) (k : Nat) (h1 : 2 * L.length ≤ k) (h2 : k ≤ 2 * L.length ∨ k = 1) : canon L = incr L k := by
  rw [Bool.eq_iff_iff, canon_iff, incr_iff]
  constructor
  · intro h j hj h0
    rcases h2 with h2 | h2
    · have hi := h (j / 2) (by omega)
      unfold endA
      by_cases e : j % 2 = 0
      · rw [if_neg (by omega), if_pos e, show (j - 1) / 2 = j / 2 - 1 by omega]
        exact hi.2 (by omega)
      · rw [if_pos (by omega), if_neg e, show (j - 1) / 2 = j / 2 by omega]
        exact hi.1
    · omega
  · intro h i hi
    refine ⟨?_, fun h0 => ?_⟩
    · have := h (2 * i + 1) (by omega) (by omega)
      unfold endA at this
      rw [if_pos (by omega), if_neg (by omega), show (2 * i + 1 - 1) / 2 = i by omega, show (2 * i + 1) / 2 = i by omega] at this
      exact this
    · have := h (2 * i) (by omega) (by omega)
      unfold endA at this
      rw [if_neg (by omega), if_pos (by omega), show (2 * i - 1) / 2 = i - 1 by omega, show 2 * i / 2 = i by omega] at this
      exact this

set_option maxHeartbeats 400000 in
theorem kend_any (v : Value) (L : List (Int × Int)) (k : Int) (kk : Nat) (w : World) (hs : Sl .i64 w v L) (hk : k = (kk : Int)) (hlt : kk < 2 * L.length) :
    Calls Ybjm.prog 24 #[v, .int .i64 k] w fun e w' => e = .returned (.int .i64 (endA L kk)) ∧ w' = w := by
  subst hk
  obtain ⟨ao, cap, rfl, hl, hm, hcell⟩ := hs
  obtain ⟨b, off, rfl, hb, hc⟩ := hcell (by omega)
  obtain ⟨hc0, hc1⟩ := hc (kk / 2) (by omega)
  have hq : (kk : Int) / 2 = ((kk / 2 : Nat) : Int) := by omega
  have hq2 : ((kk / 2 : Nat) : Int) < (L.length : Int) := by omega
  obtain ⟨i, hi⟩ : ∃ i, kk / 2 = i := ⟨_, rfl⟩
  rw [hi] at hc0 hc1 hq hq2
  by_cases h2 : kk % 2 = 0
  · have he := hide (show loA L i = endA L kk from by rw [endA, if_pos h2, hi])
    have ht : (((kk : Int) % 2) == 0) = true := by simp; omega
    clear hc hcell hi h2
    go_enter Ybjm.func24, Ybjm.ntmps24
    go_wp2
    go_ret
    exact ⟨ret_int he.out, rfl⟩
  · have he := hide (show hiA L i = endA L kk from by rw [endA, if_neg h2, hi])
    have ht : (((kk : Int) % 2) == 0) = false := by simp; omega
    clear hc hcell hi h2
    go_enter Ybjm.func24, Ybjm.ntmps24
    go_wp2
    go_ret
    exact ⟨ret_int he.out, rfl⟩

set_option maxHeartbeats 1000000 in
theorem walk_KEndpoints (v : Value) (L : List (Int × Int)) (w : World) (hs : Sl .i64 w v L) (_ : RL .i64 L) (hz : L.length ≤ 4611686018427387903) :
    Calls Ybjm.prog 9 #[v] w fun e w' => e = .returned (.bool true) ∧ Below w.heap.size w w' := by
  have hs' := hs
  obtain ⟨ao, cap, rfl, hl, hm, hcell⟩ := hs
  clear hcell
  go_enter Ybjm.func9, Ybjm.ntmps9
  go_wp2
  go_loop [3, 4] (fun b i => ∃ k : Nat, (k ≤ 2 * L.length ∨ k = 1) ∧ 1 ≤ k ∧ i = .int .i64 k ∧ b = .bool (incr L k)) (fun _ i => 2 * L.length - (intOf i).toNat)
  case atStart => exact ⟨1, .inr rfl, Nat.le_refl _, rfl, rfl⟩
  case round =>
    obtain ⟨k, hk, hk1, rfl, rfl⟩ := hrel
    obtain ⟨m, rfl⟩ : ∃ m, k = m + 1 := ⟨k - 1, by omega⟩
    by_cases hlt : m + 1 < 2 * L.length
    · have hstep : incr L (m + 1 + 1) = (incr L (m + 1) && decide (endA L m < endA L (m + 1))) := by rw [incr]; simp
      have HS := hide hstep
      clear hstep
      go_wp2_with fail
      refine (kend_any _ L _ (m + 1) _ hs' (by omega) (by omega)).mono ?_
      rintro e w1 ⟨rfl, rfl⟩
      go_wp2_with fail
      refine (kend_any _ L _ m _ hs' (by omega) (by omega)).mono ?_
      rintro e w1 ⟨rfl, rfl⟩
      rcases Int.lt_or_le (endA L m) (endA L (m + 1)) with hx | hx
      · go_wp2_with fail
        go_round
        case rel => exact ⟨m + 1 + 1, .inl (by omega), by omega, by go_num, by rw [HS.out]; simp [hx]⟩
        case measure => simp [intOf]; omega
      · go_wp2_with fail
        go_round
        case rel => exact ⟨m + 1 + 1, .inl (by omega), by omega, by go_num, by rw [HS.out, decide_eq_false (by omega)]; simp⟩
        case measure => simp [intOf]; omega
    · have hfin := hide (incr_canon L (m + 1) (by omega) hk)
      go_wp2_with fail
      refine (canon_Canonical _ L _ hs').mono ?_
      rintro e w1 ⟨rfl, hb1⟩
      go_wp2_with fail
      go_ret
      exact ⟨ret_bool (by rw [hfin.out]; simp), hb1⟩

end Go.Proofs.Ymbrbj
