/-
  Count, Rank, Select over a canonical list: the plain theory.
-/
import Derived.Test.YmbrbjThy
import Derived.Test.YmbrbjPCnt
namespace Go.Proofs.Ymbrbj

theorem size_lt {a b : Int} (h : a < b) : size a b = b - a := by unfold size; rw [if_neg (by omega)]
theorem size_ge {a b : Int} (h : b ≤ a) : size a b = 0 := by unfold size; rw [if_pos h]

theorem rank_low {x : Int} : ∀ {L : List (Int × Int)} {h : Int}, Can h L → x ≤ h + 1 → rank L x = 0 := by
  intro L
  cases L with
  | nil => intro h _ _; rfl
  | cons p R =>
    intro h hc hx
    have h1 := hc.1; have h2 := hc.2.1
    rw [rank, if_pos (by omega), size_ge (by omega)]
theorem rank_succ {x : Int} : ∀ {L : List (Int × Int)} {h : Int}, Can h L → rank L (x + 1) = rank L x + (if has L x = true then 1 else 0) := by
  intro L
  induction L with
  | nil => intro h _; simp [rank, has]
  | cons p R ih =>
    intro h hc
    have h1 := hc.1; have h2 := hc.2.1
    have hlt : has R x = true → p.2 < x := hc.2.2.lt
    rw [rank, rank]
    rcases Int.lt_trichotomy (x + 1) p.2 with c | c | c
    · have hR : ¬ has R x = true := fun h => by have := hlt h; omega
      rw [if_pos c, if_pos (by omega)]
      by_cases hx : p.1 ≤ x
      · rw [if_pos ((has_cons p R x).2 (.inl ⟨hx, by omega⟩)), size_lt (by omega)]
        by_cases e : p.1 = x
        · rw [size_ge (by omega)]; omega
        · rw [size_lt (by omega)]; omega
      · rw [if_neg (by rw [has_cons]; rintro (u | u); exact hx u.1; exact hR u), size_ge (by omega), size_ge (by omega)]; rfl
    · rw [if_neg (by omega), if_pos (by omega), if_pos ((has_cons p R x).2 (.inl ⟨by omega, by omega⟩)), rank_low hc.2.2 (by omega), size_lt h2]
      by_cases e : p.1 = x
      · rw [size_ge (by omega)]; omega
      · rw [size_lt (by omega)]; omega
    · rw [if_neg (by omega), if_neg (by omega), ih hc.2.2]
      have : (has (p :: R) x = true) ↔ has R x = true := by
        rw [has_cons]
        constructor
        · rintro (u | u)
          · omega
          · exact u
        · exact .inr
      by_cases hR : has R x = true
      · rw [if_pos hR, if_pos (this.2 hR)]; omega
      · rw [if_neg hR, if_neg (fun h => hR (this.1 h))]; omega
theorem rank_top {x : Int} : ∀ {L : List (Int × Int)}, (∀ p ∈ L, p.2 ≤ x) → rank L x = cnt L := by
  intro L
  induction L with
  | nil => intro _; rfl
  | cons p R ih =>
    intro h
    rw [rank, if_neg (by have := h p (by simp); omega), cnt, ih fun q hq => h q (by simp [hq])]
theorem cnt_nonneg : ∀ L : List (Int × Int), 0 ≤ cnt L := by
  intro L
  induction L with
  | nil => exact Int.le_refl 0
  | cons p R ih => have := size_nonneg p.1 p.2; rw [cnt]; omega
theorem rank_nonneg (x : Int) : ∀ L : List (Int × Int), 0 ≤ rank L x := by
  intro L
  induction L with
  | nil => exact Int.le_refl 0
  | cons p R ih =>
    have h1 := size_nonneg p.1 p.2
    have h2 := size_nonneg p.1 x
    rw [rank]; split <;> omega
theorem rank_le (x : Int) : ∀ L : List (Int × Int), rank L x ≤ cnt L := by
  intro L
  induction L with
  | nil => exact Int.le_refl 0
  | cons p R ih =>
    have h0 := cnt_nonneg R
    rw [rank, cnt]
    split
    · rename_i hx
      have : size p.1 x ≤ size p.1 p.2 := by unfold size; split <;> split <;> omega
      omega
    · omega
theorem cnt_le {m : Int} : ∀ {L : List (Int × Int)} {h : Int}, Can h L → (∀ p ∈ L, p.2 ≤ m) → h ≤ m → cnt L ≤ m - h := by
  intro L
  induction L with
  | nil => intro h _ _ hm; rw [cnt]; omega
  | cons p R ih =>
    intro h hc hp hm
    have h1 := hc.1; have h2 := hc.2.1
    have h3 := hp p (by simp)
    have := ih hc.2.2 (fun q hq => hp q (by simp [hq])) h3
    rw [cnt, size_lt h2]; omega

/-- Ranks between two places, where the members are known. -/
theorem rank_step_same {S T : List (Int × Int)} {h g : Int} (hs : Can h S) (ht : Can g T) (a : Int) : ∀ n : Nat, (∀ x, a ≤ x → x < a + n → has T x = has S x) → rank T (a + n) - rank T a = rank S (a + n) - rank S a := by
  intro n
  induction n with
  | zero => intro _; simp
  | succ n ih =>
    intro hx
    have h1 := ih fun x u v => hx x u (by omega)
    have h2 := rank_succ (x := a + n) hs
    have h3 := rank_succ (x := a + n) ht
    rw [hx (a + n) (by omega) (by omega)] at h3
    rw [show a + ((n + 1 : Nat) : Int) = a + n + 1 by omega]
    omega
theorem rank_step_all {T : List (Int × Int)} {g : Int} (ht : Can g T) (a : Int) : ∀ n : Nat, (∀ x, a ≤ x → x < a + n → has T x = true) → rank T (a + n) - rank T a = n := by
  intro n
  induction n with
  | zero => intro _; simp
  | succ n ih =>
    intro hx
    have h1 := ih fun x u v => hx x u (by omega)
    have h3 := rank_succ (x := a + n) ht
    rw [if_pos (hx (a + n) (by omega) (by omega))] at h3
    rw [show a + ((n + 1 : Nat) : Int) = a + n + 1 by omega]
    omega
theorem rank_mono {S : List (Int × Int)} {h : Int} (hs : Can h S) {a b : Int} (hab : a ≤ b) : rank S a ≤ rank S b := by
  obtain ⟨n, hn⟩ := Int.eq_ofNat_of_zero_le (show 0 ≤ b - a by omega)
  obtain rfl : b = a + n := by omega
  clear hab hn
  induction n with
  | zero => simp
  | succ n ih =>
    have h2 := rank_succ (x := a + n) hs
    rw [show a + ((n + 1 : Nat) : Int) = a + n + 1 by omega, h2]
    split <;> omega
theorem rank_member {S : List (Int × Int)} {h : Int} (hs : Can h S) {a b : Int} (ha : has S a = true) (hab : a < b) : rank S a + 1 ≤ rank S b := by
  have h1 := rank_succ (x := a) hs
  rw [if_pos ha] at h1
  have h2 := rank_mono hs (show a + 1 ≤ b by omega)
  omega

theorem sel_some : ∀ {L : List (Int × Int)} {h k : Int}, Can h L → 0 ≤ k → k < cnt L → ∃ v, sel L k = (v, true) ∧ has L v = true ∧ rank L v = k := by
  intro L
  induction L with
  | nil => intro h k _ h0 h1; rw [cnt] at h1; omega
  | cons p R ih =>
    intro h k hc h0 h1
    have h2 := hc.2.1
    rw [sel]
    by_cases hk : k < size p.1 p.2
    · rw [if_pos hk]
      rw [size_lt h2] at hk
      refine ⟨p.1 + k, rfl, (has_cons _ _ _).2 (.inl ⟨by omega, by omega⟩), ?_⟩
      rw [rank, if_pos (by omega)]
      by_cases e : k = 0
      · rw [size_ge (by omega)]; omega
      · rw [size_lt (by omega)]; omega
    · rw [if_neg hk]
      rw [cnt] at h1
      obtain ⟨v, e1, e2, e3⟩ := ih (k := k - size p.1 p.2) hc.2.2 (by omega) (by omega)
      refine ⟨v, e1, (has_cons _ _ _).2 (.inr e2), ?_⟩
      have := hc.2.2.lt e2
      rw [rank, if_neg (by omega), e3]; omega
theorem sel_none : ∀ {L : List (Int × Int)} {k : Int}, cnt L ≤ k → sel L k = (0, false) := by
  intro L
  induction L with
  | nil => intro k _; rfl
  | cons p R ih =>
    intro k h
    have h0 := cnt_nonneg R
    rw [cnt] at h
    rw [sel, if_neg (by omega), ih (by omega)]
/-- A member is told by its rank. -/
theorem rank_inj {S : List (Int × Int)} {h : Int} (hs : Can h S) {a b : Int} (ha : has S a = true) (hb : has S b = true) (he : rank S a = rank S b) : a = b := by
  rcases Int.lt_trichotomy a b with u | u | u
  · have := rank_member hs ha u; omega
  · exact u
  · have := rank_member hs hb u; omega

theorem has_mem : ∀ {L : List (Int × Int)} {x : Int}, has L x = true → ∃ p ∈ L, p.1 ≤ x ∧ x < p.2 := by
  intro L
  induction L with
  | nil => intro x h; simp [has] at h
  | cons q R ih =>
    intro x h
    rcases (has_cons q R x).1 h with h | h
    · exact ⟨q, by simp, h⟩
    · obtain ⟨p, hp, hx⟩ := ih h
      exact ⟨p, by simp [hp], hx⟩

/-! ### Over int64 bounds -/
theorem RL.has_i64 {L : List (Int × Int)} (h : ∀ p ∈ L, (-9223372036854775808 ≤ p.1 ∧ p.1 ≤ 9223372036854775807) ∧ (-9223372036854775808 ≤ p.2 ∧ p.2 ≤ 9223372036854775807)) {x : Int} (hx : has L x = true) : -9223372036854775808 ≤ x ∧ x < 9223372036854775807 := by
  obtain ⟨p, hp, h1, h2⟩ := has_mem hx
  have := h p hp
  omega

theorem RL.i64 {L : List (Int × Int)} (h : RL .i64 L) : ∀ p ∈ L, (-9223372036854775808 ≤ p.1 ∧ p.1 ≤ 9223372036854775807) ∧ (-9223372036854775808 ≤ p.2 ∧ p.2 ≤ 9223372036854775807) :=
  fun p hp => ⟨bounds_i64 (h p hp).1, bounds_i64 (h p hp).2⟩
theorem RL.can {L : List (Int × Int)} (h : RL .i64 L) (hc : canon L = true) : Can (-9223372036854775809) L := can_of hc fun p hp => by have := (h.i64 p hp).1.1; omega
theorem RL.cnt_le {L : List (Int × Int)} (h : RL .i64 L) (hc : canon L = true) : 0 ≤ cnt L ∧ cnt L ≤ 18446744073709551615 := by
  refine ⟨cnt_nonneg L, ?_⟩
  cases hL : L with
  | nil => rw [cnt]; omega
  | cons p R =>
    have hC := h.can hc
    rw [hL] at hC
    have h1 := hC.1; have h2 := hC.2.1
    have := Go.Proofs.Ymbrbj.cnt_le (m := 9223372036854775807) hC.2.2 (fun q hq => (h.i64 q (by rw [hL]; simp [hq])).2.2) (h.i64 p (by rw [hL]; simp)).2.2
    have h3 := (h.i64 p (by rw [hL]; simp)).2.2
    rw [cnt, size_lt h2]; omega
theorem RL.cnt_u64 {L : List (Int × Int)} (h : RL .i64 L) (hc : canon L = true) : u64 (cnt L) = cnt L := by
  have := h.cnt_le hc; unfold u64; omega
theorem RL.rank_u64 {L : List (Int × Int)} (h : RL .i64 L) (hc : canon L = true) (x : Int) : u64 (rank L x) = rank L x := by
  have := h.cnt_le hc; have := rank_le x L; have := rank_nonneg x L; unfold u64; omega

end Go.Proofs.Ymbrbj
