/-
  Union by push: the plain functions and their theory. No program in sight.
-/
import Derived.Test.YmbrbhThy
import Derived.Test.YmbrbhLPush
namespace Go.Proofs.Ymbrbh
open Go.RowKit

/-- The merging pass: M is what has been pushed so far. -/
def uniF : List (Int × Int) → List (Int × Int) → List (Int × Int) → List (Int × Int)
  | M, [], [] => M
  | M, p :: A, [] => uniF (pushL M p) A []
  | M, [], q :: B => uniF (pushL M q) [] B
  | M, p :: A, q :: B => if p.1 ≤ q.1 then uniF (pushL M p) A (q :: B) else uniF (pushL M q) (p :: A) B
def uni (A B : List (Int × Int)) : List (Int × Int) := uniF [] A B

theorem hasU_app (A B : List (Int × Int)) (x : Int) : has (A ++ B) x = true ↔ has A x = true ∨ has B x = true := by
  induction A with
  | nil => simp [has]
  | cons p R ih => rw [List.cons_append, has_cons, has_cons, ih, or_assoc]
theorem pushL_snoc (A : List (Int × Int)) (q p : Int × Int) : pushL (A ++ [q]) p = if q.2 < p.1 then A ++ [q] ++ [p] else if q.2 < p.2 then A ++ [(q.1, p.2)] else A ++ [q] := by
  have e1 : (A ++ [q]).length - 1 = A.length := by simp
  rw [pushL, if_neg (by simp), e1, hiA_snoc, loA_snoc]
  have e2 : (A ++ [q]).set A.length (q.1, p.2) = A ++ [(q.1, p.2)] := by simp
  rw [e2]
theorem push_has {M : List (Int × Int)} {p : Int × Int} (hl : 0 < M.length → loA M (M.length - 1) ≤ p.1) (_hp : p.1 < p.2) (x : Int) : has (pushL M p) x = true ↔ has M x = true ∨ (p.1 ≤ x ∧ x < p.2) := by
  rcases List.eq_nil_or_concat M with rfl | ⟨A, q, rfl⟩
  · have e : pushL [] p = [p] := by simp [pushL]
    rw [e, has_cons]; simp [has]
  · rw [List.concat_eq_append] at hl ⊢
    have hq := hl (by simp)
    have e1 : (A ++ [q]).length - 1 = A.length := by simp
    rw [e1, loA_snoc] at hq
    rw [pushL_snoc]
    have h1 : ∀ r : Int × Int, has [r] x = true ↔ r.1 ≤ x ∧ x < r.2 := fun r => by rw [has_cons]; simp [has]
    split
    · rw [hasU_app, h1]
    · split
      · rw [hasU_app, hasU_app, h1, h1, or_assoc]
        by_cases hA : has A x = true
        · simp [hA]
        · simp only [hA, Bool.false_eq_true, false_or]; omega
      · rw [hasU_app, h1, or_assoc]
        by_cases hA : has A x = true
        · simp [hA]
        · simp only [hA, Bool.false_eq_true, false_or]; omega

/-- The last span's Lo is not greater than c. -/
def LastLe (M : List (Int × Int)) (c : Int) : Prop := 0 < M.length → loA M (M.length - 1) ≤ c

theorem uniF_thy : ∀ (n : Nat) (M A B : List (Int × Int)) (a b : Int), A.length + B.length ≤ n → canon M = true → Can a A → Can b B → (∀ p ∈ A, LastLe M p.1) → (∀ q ∈ B, LastLe M q.1) →
    canon (uniF M A B) = true ∧ ∀ x, has (uniF M A B) x = true ↔ has M x = true ∨ has A x = true ∨ has B x = true := by
  intro n
  induction n with
  | zero =>
    intro M A B a b hn hM _ _ _ _
    obtain rfl : A = [] := List.eq_nil_of_length_eq_zero (by omega)
    obtain rfl : B = [] := List.eq_nil_of_length_eq_zero (by omega)
    exact ⟨by simpa [uniF] using hM, fun x => by simp [uniF, has]⟩
  | succ n ih =>
    intro M A B a b hn hM ha hb hA hB
    have stepA : ∀ (p : Int × Int) (A' : List (Int × Int)), A = p :: A' → (∀ q ∈ B, p.1 ≤ q.1) →
        canon (uniF (pushL M p) A' B) = true ∧ ∀ x, has (uniF (pushL M p) A' B) x = true ↔ has M x = true ∨ has A x = true ∨ has B x = true := by
      rintro p A' rfl hpB
      obtain ⟨c1, c2, c3⟩ := push_canon hM (hA p (by simp)) ha.2.1
      obtain ⟨r1, r2⟩ := ih (pushL M p) A' B p.2 b (by simp at hn; omega) c1 ha.2.2 hb (fun r hr _ => by have := (ha.2.2.lo_lt r hr).1; have := ha.2.1; omega) (fun q hq _ => by have := hpB q hq; omega)
      refine ⟨r1, fun x => ?_⟩
      rw [r2 x, push_has (hA p (by simp)) ha.2.1, has_cons, or_assoc, or_assoc]
    have stepB : ∀ (q : Int × Int) (B' : List (Int × Int)), B = q :: B' → (∀ p ∈ A, q.1 ≤ p.1) →
        canon (uniF (pushL M q) A B') = true ∧ ∀ x, has (uniF (pushL M q) A B') x = true ↔ has M x = true ∨ has A x = true ∨ has B x = true := by
      rintro q B' rfl hqA
      obtain ⟨c1, c2, c3⟩ := push_canon hM (hB q (by simp)) hb.2.1
      obtain ⟨r1, r2⟩ := ih (pushL M q) A B' a q.2 (by simp at hn; omega) c1 ha hb.2.2 (fun p hp _ => by have := hqA p hp; omega) (fun r hr _ => by have := (hb.2.2.lo_lt r hr).1; have := hb.2.1; omega)
      refine ⟨r1, fun x => ?_⟩
      rw [r2 x, push_has (hB q (by simp)) hb.2.1, has_cons, or_assoc]
      constructor
      · rintro (h | h | h | h)
        · exact .inl h
        · exact .inr (.inr (.inl h))
        · exact .inr (.inl h)
        · exact .inr (.inr (.inr h))
      · rintro (h | h | h | h)
        · exact .inl h
        · exact .inr (.inr (.inl h))
        · exact .inr (.inl h)
        · exact .inr (.inr (.inr h))
    cases A with
    | nil =>
      cases B with
      | nil => exact ⟨by simpa [uniF] using hM, fun x => by simp [uniF, has]⟩
      | cons q B => rw [uniF]; exact stepB q B rfl (fun p hp => by simp at hp)
    | cons p A =>
      cases B with
      | nil => rw [uniF]; exact stepA p A rfl (fun q hq => by simp at hq)
      | cons q B =>
        rw [uniF]
        split
        · rename_i h
          refine stepA p A rfl fun r hr => ?_
          rcases List.mem_cons.1 hr with rfl | hr
          · exact h
          · have := (hb.2.2.lo_lt r hr).1; have := hb.2.1; omega
        · rename_i h
          refine stepB q B rfl fun r hr => ?_
          rcases List.mem_cons.1 hr with rfl | hr
          · omega
          · have := (ha.2.2.lo_lt r hr).1; have := ha.2.1; omega
theorem uni_thy {A B : List (Int × Int)} (ha : canon A = true) (hb : canon B = true) : canon (uni A B) = true ∧ ∀ x, has (uni A B) x = true ↔ has A x = true ∨ has B x = true := by
  obtain ⟨a, ha⟩ := can_ex ha
  obtain ⟨b, hb⟩ := can_ex hb
  obtain ⟨r1, r2⟩ := uniF_thy _ [] A B a b (Nat.le_refl _) rfl ha hb (fun p _ h => absurd h (by simp)) (fun q _ h => absurd h (by simp))
  exact ⟨r1, fun x => by rw [uni, r2 x]; simp [has]⟩
theorem uniF_length : ∀ (n : Nat) (M A B : List (Int × Int)), A.length + B.length ≤ n → (uniF M A B).length ≤ M.length + n := by
  intro n
  induction n with
  | zero =>
    intro M A B hn
    obtain rfl : A = [] := List.eq_nil_of_length_eq_zero (by omega)
    obtain rfl : B = [] := List.eq_nil_of_length_eq_zero (by omega)
    simp [uniF]
  | succ n ih =>
    intro M A B hn
    cases A with
    | nil =>
      cases B with
      | nil => simp [uniF]
      | cons q B => rw [uniF]; have := ih (pushL M q) [] B (by simp at hn ⊢; omega); have := pushL_length M q; omega
    | cons p A =>
      cases B with
      | nil => rw [uniF]; have := ih (pushL M p) A [] (by simp at hn ⊢; omega); have := pushL_length M p; omega
      | cons q B =>
        rw [uniF]
        split
        · have := ih (pushL M p) A (q :: B) (by simp at hn ⊢; omega); have := pushL_length M p; omega
        · have := ih (pushL M q) (p :: A) B (by simp at hn ⊢; omega); have := pushL_length M q; omega
/-- Union is Add after Add of the second operand's spans. -/
theorem uni_addAll {S Q : List (Int × Int)} (hS : canon S = true) : uni S (fromS Q) = addAll S Q := by
  obtain ⟨r1, r2⟩ := uni_thy hS (fromS_canon Q)
  obtain ⟨s1, s2⟩ := addAll_thy Q S hS
  refine canon_unique r1 s1 fun x => ?_
  rw [Bool.eq_iff_iff, r2 x, s2 x, fromS_has]

variable {A B M : List (Int × Int)} {i j : Nat}

theorem uni_A (hi : i < A.length) (hj : ¬ j < B.length) (he : Hid (uni A B = uniF M (A.drop i) (B.drop j))) : Hid (uni A B = uniF (pushL M (loA A i, hiA A i)) (A.drop (i + 1)) (B.drop j)) := by
  show _ = _
  rw [he.out, drop_cons hi, drop_end hj, uniF]
theorem uni_B (hi : ¬ i < A.length) (hj : j < B.length) (he : Hid (uni A B = uniF M (A.drop i) (B.drop j))) : Hid (uni A B = uniF (pushL M (loA B j, hiA B j)) (A.drop i) (B.drop (j + 1))) := by
  show _ = _
  rw [he.out, drop_cons hj, drop_end hi, uniF]
theorem uni_AB (hi : i < A.length) (hj : j < B.length) (h : loA A i ≤ loA B j) (he : Hid (uni A B = uniF M (A.drop i) (B.drop j))) : Hid (uni A B = uniF (pushL M (loA A i, hiA A i)) (A.drop (i + 1)) (B.drop j)) := by
  show _ = _
  rw [he.out, drop_cons hi, drop_cons hj, uniF, if_pos (by simpa using h)]
theorem uni_BA (hi : i < A.length) (hj : j < B.length) (h : loA B j < loA A i) (he : Hid (uni A B = uniF M (A.drop i) (B.drop j))) : Hid (uni A B = uniF (pushL M (loA B j, hiA B j)) (A.drop i) (B.drop (j + 1))) := by
  show _ = _
  rw [he.out, drop_cons hi, drop_cons hj, uniF, if_neg (by simp; omega)]
theorem uni_end (hi : ¬ i < A.length) (hj : ¬ j < B.length) (he : Hid (uni A B = uniF M (A.drop i) (B.drop j))) : uni A B = M := by
  rw [he.out, drop_end hi, drop_end hj, uniF]

end Go.Proofs.Ymbrbh
