/-
  Intersect: the plain theory. No program in sight.
-/
import Derived.Test.YmbrbiThy
import Derived.Test.YmbrbiPInt
namespace Go.Proofs.Ymbrbi

theorem inter_nil_r (A : List (Int × Int)) : inter A [] = [] := by cases A <;> simp [inter]
theorem one_has (lo hi x : Int) : has (one lo hi) x = true ↔ lo ≤ x ∧ x < hi := by
  unfold one; split
  · simp [has]
  · simp [has]; omega
theorem one_append_can {lo hi h : Int} {X : List (Int × Int)} (h1 : h < lo) (h2 : Can hi X) (h3 : Can h X) : Can h (one lo hi ++ X) := by
  unfold one; split
  · rename_i hx; exact ⟨h1, hx, h2⟩
  · exact h3

theorem inter_can : ∀ (n : Nat) (A B : List (Int × Int)) (h g : Int), A.length + B.length ≤ n → Can h A → Can g B → Can h (inter A B) ∧ Can g (inter A B) := by
  intro n
  induction n with
  | zero =>
    intro A B h g hn _ _
    obtain rfl : A = [] := List.eq_nil_of_length_eq_zero (by omega)
    simp [inter, Can]
  | succ n ih =>
    intro A B h g hn ha hb
    cases A with
    | nil => simp [inter, Can]
    | cons p A =>
      cases B with
      | nil => simp [inter, Can]
      | cons q B =>
        have a1 := ha.1; have a2 := ha.2.1; have b1 := hb.1; have b2 := hb.2.1
        have hlo1 : p.1 ≤ mxI p.1 q.1 := by unfold mxI; split <;> omega
        have hlo2 : q.1 ≤ mxI p.1 q.1 := by unfold mxI; split <;> omega
        rw [inter]
        split
        · rename_i hx
          have hm : mnI p.2 q.2 = p.2 := by unfold mnI; split <;> omega
          have r := ih A (q :: B) p.2 g (by simp at hn ⊢; omega) ha.2.2 hb
          rw [hm]
          exact ⟨one_append_can (by omega) r.1 (r.1.mono (by omega)), one_append_can (by omega) r.1 r.2⟩
        · rename_i hx
          have hm : mnI p.2 q.2 = q.2 := by unfold mnI; split <;> omega
          have r := ih (p :: A) B h q.2 (by simp at hn ⊢; omega) ha hb.2.2
          rw [hm]
          exact ⟨one_append_can (by omega) r.2 r.1, one_append_can (by omega) r.2 (r.2.mono (by omega))⟩
theorem inter_canon {A B : List (Int × Int)} (ha : canon A = true) (hb : canon B = true) : canon (inter A B) = true := by
  obtain ⟨h, hh⟩ := can_ex ha
  obtain ⟨g, hg⟩ := can_ex hb
  exact (inter_can _ A B h g (Nat.le_refl _) hh hg).1.canon

theorem has_app (A B : List (Int × Int)) (x : Int) : has (A ++ B) x = true ↔ has A x = true ∨ has B x = true := by
  induction A with
  | nil => simp [has]
  | cons p R ih => rw [List.cons_append, has_cons, has_cons, ih, or_assoc]

theorem inter_has' (x : Int) : ∀ (n : Nat) (A B : List (Int × Int)) (h g : Int), A.length + B.length ≤ n → Can h A → Can g B → (has (inter A B) x = true ↔ has A x = true ∧ has B x = true) := by
  intro n
  induction n with
  | zero =>
    intro A B h g hn _ _
    obtain rfl : A = [] := List.eq_nil_of_length_eq_zero (by omega)
    simp [inter, has]
  | succ n ih =>
    intro A B h g hn ha hb
    cases A with
    | nil => simp [inter, has]
    | cons p A =>
      cases B with
      | nil => simp [inter, has]
      | cons q B =>
        have a2 := ha.2.1; have b2 := hb.2.1
        rw [inter]
        split
        · rename_i hx
          have r := ih A (q :: B) p.2 g (by simp at hn ⊢; omega) ha.2.2 hb
          rw [has_app, one_has, r, has_cons p A, has_cons q B]
          have k1 : has B x = true → q.2 < x := hb.2.2.lt
          have e : (mxI p.1 q.1 ≤ x ∧ x < mnI p.2 q.2) ↔ (p.1 ≤ x ∧ x < p.2) ∧ (q.1 ≤ x ∧ x < q.2) := by unfold mxI mnI; split <;> split <;> omega
          rw [e]
          constructor
          · rintro (⟨u, v⟩ | ⟨u, v⟩)
            · exact ⟨.inl u, .inl v⟩
            · exact ⟨.inr u, v⟩
          · rintro ⟨u | u, v⟩
            · rcases v with v | v
              · exact .inl ⟨u, v⟩
              · have := k1 v; omega
            · exact .inr ⟨u, v⟩
        · rename_i hx
          have r := ih (p :: A) B h q.2 (by simp at hn ⊢; omega) ha hb.2.2
          rw [has_app, one_has, r, has_cons p A, has_cons q B]
          have k2 : has A x = true → p.2 < x := ha.2.2.lt
          have e : (mxI p.1 q.1 ≤ x ∧ x < mnI p.2 q.2) ↔ (p.1 ≤ x ∧ x < p.2) ∧ (q.1 ≤ x ∧ x < q.2) := by unfold mxI mnI; split <;> split <;> omega
          rw [e]
          constructor
          · rintro (⟨u, v⟩ | ⟨u, v⟩)
            · exact ⟨.inl u, .inl v⟩
            · exact ⟨u, .inr v⟩
          · rintro ⟨u, v | v⟩
            · rcases u with u | u
              · exact .inl ⟨u, v⟩
              · have := k2 u; omega
            · exact .inr ⟨u, v⟩
theorem inter_has {A B : List (Int × Int)} (ha : canon A = true) (hb : canon B = true) (x : Int) : has (inter A B) x = (has A x && has B x) := by
  obtain ⟨h, hh⟩ := can_ex ha
  obtain ⟨g, hg⟩ := can_ex hb
  rw [Bool.eq_iff_iff, inter_has' x _ A B h g (Nat.le_refl _) hh hg, Bool.and_eq_true]
theorem inter_comm {A B : List (Int × Int)} (ha : canon A = true) (hb : canon B = true) : inter A B = inter B A :=
  canon_unique (inter_canon ha hb) (inter_canon hb ha) fun x => by rw [inter_has ha hb, inter_has hb ha, Bool.and_comm]

/-- The overlaps of one span with each of a list. -/
def rowP (p : Int × Int) : List (Int × Int) → List (Int × Int)
  | [] => []
  | q :: B => one (mxI p.1 q.1) (mnI p.2 q.2) ++ rowP p B
/-- The overlaps of all pairs. -/
def pairsL : List (Int × Int) → List (Int × Int) → List (Int × Int)
  | [], _ => []
  | p :: A, B => rowP p B ++ pairsL A B

theorem one_none {lo hi : Int} (h : hi ≤ lo) : one lo hi = [] := by unfold one; rw [if_neg (by omega)]
theorem rowP_none {p : Int × Int} : ∀ {B : List (Int × Int)} {g : Int}, Can g B → p.2 ≤ g → rowP p B = [] := by
  intro B
  induction B with
  | nil => intro g _ _; rfl
  | cons q B ih =>
    intro g hb h
    have b1 := hb.1; have b2 := hb.2.1
    rw [rowP, one_none (by unfold mxI mnI; split <;> split <;> omega), ih hb.2.2 (by omega)]; rfl
theorem pairs_drop {q : Int × Int} {B : List (Int × Int)} : ∀ {A : List (Int × Int)} {h : Int}, Can h A → q.2 ≤ h → pairsL A (q :: B) = pairsL A B := by
  intro A
  induction A with
  | nil => intro h _ _; rfl
  | cons p A ih =>
    intro h ha hq
    have a1 := ha.1; have a2 := ha.2.1
    rw [pairsL, pairsL, rowP, one_none (by unfold mxI mnI; split <;> split <;> omega), ih ha.2.2 (by omega)]; rfl
theorem pairs_nil_r : ∀ A : List (Int × Int), pairsL A [] = [] := by
  intro A
  induction A with
  | nil => rfl
  | cons p A ih => rw [pairsL, rowP, ih]; rfl
theorem inter_pairs' : ∀ (n : Nat) (A B : List (Int × Int)) (h g : Int), A.length + B.length ≤ n → Can h A → Can g B → inter A B = pairsL A B := by
  intro n
  induction n with
  | zero =>
    intro A B h g hn _ _
    obtain rfl : A = [] := List.eq_nil_of_length_eq_zero (by omega)
    simp [inter, pairsL]
  | succ n ih =>
    intro A B h g hn ha hb
    cases A with
    | nil => simp [inter, pairsL]
    | cons p A =>
      cases B with
      | nil => rw [pairs_nil_r, inter_nil_r]
      | cons q B =>
        rw [inter]
        split
        · rename_i hx
          rw [ih A (q :: B) p.2 g (by simp at hn ⊢; omega) ha.2.2 hb, pairsL, rowP, rowP_none hb.2.2 hx]; simp
        · rename_i hx
          rw [ih (p :: A) B h q.2 (by simp at hn ⊢; omega) ha hb.2.2, pairsL, pairsL, rowP, pairs_drop ha.2.2 (by omega)]; simp
theorem inter_pairs {A B : List (Int × Int)} (ha : canon A = true) (hb : canon B = true) : inter A B = pairsL A B := by
  obtain ⟨h, hh⟩ := can_ex ha
  obtain ⟨g, hg⟩ := can_ex hb
  exact inter_pairs' _ A B h g (Nat.le_refl _) hh hg

end Go.Proofs.Ymbrbi
