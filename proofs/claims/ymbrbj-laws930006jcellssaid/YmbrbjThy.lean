/-
  Canonical lists and Add: the plain theory. No program in sight.
-/
import Derived.Test.YmbrbjPAdd
import Derived.Test.YmbrbjLCanon
namespace Go.Proofs.Ymbrbj

/-- Canonical, and all of it behind h. -/
def Can : Int → List (Int × Int) → Prop
  | _, [] => True
  | h, p :: R => h < p.1 ∧ p.1 < p.2 ∧ Can p.2 R

theorem Can.mono {h h' : Int} : ∀ {L : List (Int × Int)}, Can h' L → h ≤ h' → Can h L
  | [], _, _ => trivial
  | _ :: _, hc, hh => ⟨Int.lt_of_le_of_lt hh hc.1, hc.2⟩

theorem can_iff : ∀ (L : List (Int × Int)) (h : Int), canonF (some h) L = true ↔ Can h L := by
  intro L
  induction L with
  | nil => intro h; simp [canonF, Can]
  | cons p R ih =>
    intro h
    rw [canonF, Bool.and_eq_true, Bool.and_eq_true, ih p.2, Can]
    simp [gapOk]
    constructor
    · rintro ⟨⟨a, b⟩, c⟩; exact ⟨b, a, c⟩
    · rintro ⟨a, b, c⟩; exact ⟨⟨b, a⟩, c⟩
theorem Can.canon {h : Int} {L : List (Int × Int)} (hc : Can h L) : canon L = true := by
  cases L with
  | nil => rfl
  | cons p R =>
    have h2 := (can_iff R p.2).2 hc.2.2
    rw [Go.Proofs.Ymbrbj.canon, canonF, h2]
    simp [gapOk, hc.2.1]
/-- A canonical list is behind whatever is less than all its bounds. -/
theorem can_of {L : List (Int × Int)} (hc : canon L = true) {h : Int} (hl : ∀ p ∈ L, h < p.1) : Can h L := by
  cases L with
  | nil => trivial
  | cons p R =>
    rw [canon, canonF, Bool.and_eq_true, Bool.and_eq_true] at hc
    exact ⟨hl p (by simp), by simpa using hc.1.1, (can_iff R p.2).1 hc.2⟩
theorem can_ex {L : List (Int × Int)} (hc : canon L = true) : ∃ h, Can h L := by
  cases L with
  | nil => exact ⟨0, trivial⟩
  | cons p R =>
    rw [canon, canonF, Bool.and_eq_true, Bool.and_eq_true] at hc
    exact ⟨p.1 - 1, by omega, by simpa using hc.1.1, (can_iff R p.2).1 hc.2⟩

theorem has_cons (p : Int × Int) (R : List (Int × Int)) (x : Int) : has (p :: R) x = true ↔ (p.1 ≤ x ∧ x < p.2) ∨ has R x = true := by simp [has]
theorem has_nil (x : Int) : has [] x = false := rfl

theorem Can.lt {x : Int} : ∀ {L : List (Int × Int)} {h : Int}, Can h L → has L x = true → h < x := by
  intro L
  induction L with
  | nil => intro h _ hx; simp [has] at hx
  | cons p R ih =>
    intro h hc hx
    rcases (has_cons p R x).1 hx with ⟨h1, _⟩ | h1
    · have := hc.1; omega
    · have := ih hc.2.2 h1; have := hc.1; have := hc.2.1; omega

/-- Two canonical lists with the same members are one list. -/
theorem can_unique : ∀ (A B : List (Int × Int)) (h g : Int), Can h A → Can g B → (∀ x, has A x = true ↔ has B x = true) → A = B := by
  intro A
  induction A with
  | nil =>
    intro B h g _ hb he
    cases B with
    | nil => rfl
    | cons q B =>
      have := (he q.1).2 ((has_cons q B q.1).2 (.inl ⟨Int.le_refl _, hb.2.1⟩))
      simp [has] at this
  | cons p A ih =>
    intro B h g ha hb he
    cases B with
    | nil =>
      have := (he p.1).1 ((has_cons p A p.1).2 (.inl ⟨Int.le_refl _, ha.2.1⟩))
      simp [has] at this
    | cons q B =>
      have e1 : p.1 = q.1 := by
        have a1 := (he p.1).1 ((has_cons p A p.1).2 (.inl ⟨Int.le_refl _, ha.2.1⟩))
        have b1 := (he q.1).2 ((has_cons q B q.1).2 (.inl ⟨Int.le_refl _, hb.2.1⟩))
        have a2 : q.1 ≤ p.1 := by
          rcases (has_cons q B p.1).1 a1 with ⟨u, _⟩ | u
          · exact u
          · have := hb.2.2.lt u; have := hb.2.1; omega
        have b2 : p.1 ≤ q.1 := by
          rcases (has_cons p A q.1).1 b1 with ⟨u, _⟩ | u
          · exact u
          · have := ha.2.2.lt u; have := ha.2.1; omega
        omega
      have e2 : p.2 = q.2 := by
        rcases Int.lt_trichotomy p.2 q.2 with u | u | u
        · exfalso
          have := (he p.2).2 ((has_cons q B p.2).2 (.inl ⟨by have := ha.2.1; omega, u⟩))
          rcases (has_cons p A p.2).1 this with ⟨_, v⟩ | v
          · omega
          · have := ha.2.2.lt v; omega
        · exact u
        · exfalso
          have := (he q.2).1 ((has_cons p A q.2).2 (.inl ⟨by have := hb.2.1; omega, u⟩))
          rcases (has_cons q B q.2).1 this with ⟨_, v⟩ | v
          · omega
          · have := hb.2.2.lt v; omega
      have e : p = q := Prod.ext e1 e2
      subst e
      congr 1
      refine ih B p.2 p.2 ha.2.2 hb.2.2 fun x => ?_
      constructor
      · intro hx
        have hgt := ha.2.2.lt hx
        rcases (has_cons p B x).1 ((he x).1 ((has_cons p A x).2 (.inr hx))) with ⟨_, v⟩ | v
        · omega
        · exact v
      · intro hx
        have hgt := hb.2.2.lt hx
        rcases (has_cons p A x).1 ((he x).2 ((has_cons p B x).2 (.inr hx))) with ⟨_, v⟩ | v
        · omega
        · exact v
theorem canon_unique {A B : List (Int × Int)} (ha : canon A = true) (hb : canon B = true) (he : ∀ x, has A x = has B x) : A = B := by
  obtain ⟨h, ha⟩ := can_ex ha
  obtain ⟨g, hb⟩ := can_ex hb
  exact can_unique A B h g ha hb fun x => by rw [he x]

theorem addM_can : ∀ (L : List (Int × Int)) (h lo hi : Int), Can h L → h < lo → lo < hi → Can h (addM lo hi L) := by
  intro L
  induction L with
  | nil => intro h lo hi _ h1 h2; exact ⟨h1, h2, trivial⟩
  | cons p R ih =>
    intro h lo hi hc h1 h2
    have hp := hc.1
    have hq := hc.2.1
    rw [addM]
    split
    · rename_i hx
      refine ih h _ _ (hc.2.2.mono (by omega)) ?_ ?_
      · split <;> omega
      · split <;> split <;> omega
    · rename_i hx
      exact ⟨h1, h2, by omega, hq, hc.2.2⟩
theorem addR_can : ∀ (L : List (Int × Int)) (h lo hi : Int), Can h L → h < lo → lo < hi → Can h (addR lo hi L) := by
  intro L
  induction L with
  | nil => intro h lo hi _ h1 h2; exact ⟨h1, h2, trivial⟩
  | cons p R ih =>
    intro h lo hi hc h1 h2
    rw [addR]
    split
    · rename_i hx
      exact ⟨hc.1, hc.2.1, ih p.2 lo hi hc.2.2 hx h2⟩
    · exact addM_can (p :: R) h lo hi hc h1 h2
theorem add_canon {L : List (Int × Int)} (hc : canon L = true) (lo hi : Int) : canon (add L lo hi) = true := by
  unfold add
  split
  · exact hc
  · rename_i hx
    obtain ⟨h, hh⟩ := can_ex hc
    exact (addR_can L (min h (lo - 1)) lo hi (hh.mono (by omega)) (by omega) (by omega)).canon

theorem addM_has (x : Int) : ∀ (L : List (Int × Int)) (h lo hi : Int), Can h L → lo < hi → (∀ p ∈ L, lo ≤ p.2) → (has (addM lo hi L) x = true ↔ has L x = true ∨ (lo ≤ x ∧ x < hi)) := by
  intro L
  induction L with
  | nil => intro h lo hi _ h2 _; simp [addM, has]
  | cons p R ih =>
    intro h lo hi hc h2 hl
    have hp := hl p (by simp)
    have hq := hc.2.1
    rw [addM]
    split
    · rename_i hx
      rw [ih p.2 _ _ hc.2.2 (by split <;> split <;> omega) (fun r hr => by have := hl r (by simp [hr]); split <;> omega), has_cons]
      by_cases hR : has R x = true
      · simp [hR]
      · simp only [hR, Bool.false_eq_true, false_or, or_false]
        split <;> split <;> omega
    · rename_i hx
      rw [has_cons]
      constructor
      · rintro (u | u)
        · exact .inr u
        · exact .inl u
      · rintro (u | u)
        · exact .inr u
        · exact .inl u
theorem Can.hi_lt : ∀ {L : List (Int × Int)} {h : Int}, Can h L → ∀ p ∈ L, h < p.2 := by
  intro L
  induction L with
  | nil => intro h _ p hp; simp at hp
  | cons q R ih =>
    intro h hc p hp
    have h1 := hc.1
    have h2 := hc.2.1
    rcases List.mem_cons.1 hp with rfl | hp
    · omega
    · have := ih hc.2.2 p hp; omega
theorem Can.lo_lt : ∀ {L : List (Int × Int)} {h : Int}, Can h L → ∀ p ∈ L, h < p.1 ∧ p.1 < p.2 := by
  intro L
  induction L with
  | nil => intro h _ p hp; simp at hp
  | cons q R ih =>
    intro h hc p hp
    have h1 := hc.1
    have h2 := hc.2.1
    rcases List.mem_cons.1 hp with rfl | hp
    · omega
    · have := ih hc.2.2 p hp; omega
theorem addR_has (x : Int) : ∀ (L : List (Int × Int)) (h lo hi : Int), Can h L → lo < hi → (has (addR lo hi L) x = true ↔ has L x = true ∨ (lo ≤ x ∧ x < hi)) := by
  intro L
  induction L with
  | nil => intro h lo hi _ h2; simp [addR, has]
  | cons p R ih =>
    intro h lo hi hc h2
    rw [addR]
    split
    · rw [has_cons, has_cons, ih p.2 lo hi hc.2.2 h2, or_assoc]
    · rename_i hx
      refine addM_has x (p :: R) h lo hi hc h2 fun r hr => ?_
      rcases List.mem_cons.1 hr with rfl | hr
      · omega
      · have := hc.2.2.hi_lt r hr; omega
theorem add_has {L : List (Int × Int)} (hc : canon L = true) (lo hi x : Int) : has (add L lo hi) x = true ↔ has L x = true ∨ (lo ≤ x ∧ x < hi) := by
  unfold add
  split
  · constructor
    · exact fun h => .inl h
    · rintro (h | h)
      · exact h
      · omega
  · obtain ⟨h, hh⟩ := can_ex hc
    exact addR_has x L h lo hi hh (by omega)
theorem add_has_eq {L : List (Int × Int)} (hc : canon L = true) (lo hi x : Int) : has (add L lo hi) x = (has L x || (decide (lo ≤ x) && decide (x < hi))) := by
  rw [Bool.eq_iff_iff, add_has hc]; simp

theorem addAll_thy : ∀ (R S : List (Int × Int)), canon S = true → canon (addAll S R) = true ∧ ∀ x, has (addAll S R) x = true ↔ has S x = true ∨ has R x = true := by
  intro R
  induction R with
  | nil => intro S h; exact ⟨h, fun x => by simp [addAll, has]⟩
  | cons p R ih =>
    intro S h
    obtain ⟨h1, h2⟩ := ih (add S p.1 p.2) (add_canon h _ _)
    refine ⟨h1, fun x => ?_⟩
    rw [addAll, h2 x, add_has h, has_cons, or_assoc]
theorem fromS_canon (L : List (Int × Int)) : canon (fromS L) = true := (addAll_thy L [] rfl).1
theorem fromS_has (L : List (Int × Int)) (x : Int) : has (fromS L) x = has L x := by
  rw [Bool.eq_iff_iff, fromS, (addAll_thy L [] rfl).2 x]; simp [has]
theorem fromS_self {L : List (Int × Int)} (h : canon L = true) : fromS L = L := canon_unique (fromS_canon L) h (fromS_has L)

/-- Whatever holds of all bounds holds of the bounds of what Add makes. -/
theorem addM_all {P : Int → Prop} : ∀ (L : List (Int × Int)) (lo hi : Int), (∀ p ∈ L, P p.1 ∧ P p.2) → P lo → P hi → ∀ p ∈ addM lo hi L, P p.1 ∧ P p.2 := by
  intro L
  induction L with
  | nil => intro lo hi _ h1 h2 p hp; simp [addM] at hp; subst hp; exact ⟨h1, h2⟩
  | cons q R ih =>
    intro lo hi hl h1 h2 p hp
    have hq := hl q (by simp)
    rw [addM] at hp
    split at hp
    · refine ih _ _ (fun r hr => hl r (by simp [hr])) ?_ ?_ p hp
      · split
        · exact hq.1
        · exact h1
      · split
        · exact hq.2
        · exact h2
    · rcases List.mem_cons.1 hp with rfl | hp
      · exact ⟨h1, h2⟩
      · exact hl p hp
theorem add_all {P : Int → Prop} {L : List (Int × Int)} {lo hi : Int} (hl : ∀ p ∈ L, P p.1 ∧ P p.2) (h1 : P lo) (h2 : P hi) : ∀ p ∈ add L lo hi, P p.1 ∧ P p.2 := by
  unfold add
  split
  · exact hl
  · rename_i hx
    clear hx
    induction L with
    | nil => intro p hp; simp [addR] at hp; subst hp; exact ⟨h1, h2⟩
    | cons q R ih =>
      intro p hp
      rw [addR] at hp
      split at hp
      · rcases List.mem_cons.1 hp with rfl | hp
        · exact hl p (by simp)
        · exact ih (fun r hr => hl r (by simp [hr])) p hp
      · exact addM_all (q :: R) lo hi hl h1 h2 p hp
theorem addAll_all {P : Int → Prop} : ∀ (R S : List (Int × Int)), (∀ p ∈ S, P p.1 ∧ P p.2) → (∀ p ∈ R, P p.1 ∧ P p.2) → ∀ p ∈ addAll S R, P p.1 ∧ P p.2 := by
  intro R
  induction R with
  | nil => intro S h _; exact h
  | cons q R ih =>
    intro S h1 h2
    exact ih _ (add_all h1 (h2 q (by simp)).1 (h2 q (by simp)).2) fun p hp => h2 p (by simp [hp])
theorem fromS_all {P : Int → Prop} {L : List (Int × Int)} (h : ∀ p ∈ L, P p.1 ∧ P p.2) : ∀ p ∈ fromS L, P p.1 ∧ P p.2 := addAll_all L [] (by simp) h
theorem fromS_RL {L : List (Int × Int)} (h : RL .i64 L) : RL .i64 (fromS L) := fromS_all (P := fun x => (Lit.int .i64 x).wf = true) h

end Go.Proofs.Ymbrbj
