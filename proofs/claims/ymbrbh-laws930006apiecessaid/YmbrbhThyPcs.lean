/-
  Add by pieces: what ends before lo, the hull, what begins behind hi. No program in sight.
-/
import Derived.Test.YmbrbhThy
namespace Go.Proofs.Ymbrbh
open Go.RowKit

def preL (lo : Int) : List (Int × Int) → List (Int × Int)
  | [] => []
  | p :: R => if p.2 < lo then p :: preL lo R else preL lo R
def postL (hi : Int) : List (Int × Int) → List (Int × Int)
  | [] => []
  | p :: R => if hi < p.1 then p :: postL hi R else postL hi R
def hullF (lo hi : Int) : Int → Int → List (Int × Int) → Int × Int
  | a, b, [] => (a, b)
  | a, b, p :: R => if p.2 < lo then hullF lo hi a b R else if p.1 ≤ hi then hullF lo hi (if p.1 < a then p.1 else a) (if b < p.2 then p.2 else b) R else hullF lo hi a b R

theorem behind {hi g : Int} : ∀ {L : List (Int × Int)}, Can g L → hi ≤ g → postL hi L = L ∧ ∀ lo a b, lo ≤ g → hullF lo hi a b L = (a, b) ∧ preL lo L = [] := by
  intro L
  induction L generalizing g with
  | nil => intro _ _; exact ⟨rfl, fun _ _ _ _ => ⟨rfl, rfl⟩⟩
  | cons p R ih =>
    intro hc hg
    have h1 := hc.1; have h2 := hc.2.1
    obtain ⟨i1, i2⟩ := ih hc.2.2 (by omega)
    refine ⟨by rw [postL, if_pos (by omega), i1], fun lo a b hlo => ?_⟩
    obtain ⟨j1, j2⟩ := i2 lo a b (by omega)
    exact ⟨by rw [hullF, if_neg (by omega), if_neg (by omega), j1], by rw [preL, if_neg (by omega), j2]⟩

theorem addM_pcs {lo hi : Int} (hlh : lo < hi) : ∀ (L : List (Int × Int)) (g a b : Int), Can g L → (∀ p ∈ L, lo ≤ p.2) → hi ≤ b → (b = hi ∨ b ≤ g) → addM a b L = hullF lo hi a b L :: postL hi L ∧ preL lo L = [] := by
  intro L
  induction L with
  | nil => intro g a b _ _ _ _; exact ⟨rfl, rfl⟩
  | cons p R ih =>
    intro g a b hc hl hb hor
    have h1 := hc.1; have h2 := hc.2.1
    have hp := hl p (by simp)
    have hnp : ¬ p.2 < lo := by omega
    rw [addM, hullF, if_neg hnp, postL, preL, if_neg hnp]
    by_cases c : p.1 ≤ b
    · have hbh : b = hi := by rcases hor with h | h <;> omega
      subst hbh
      rw [if_pos c, if_pos c, if_neg (show ¬ b < p.1 by omega)]
      exact ih p.2 (if p.1 < a then p.1 else a) (if b < p.2 then p.2 else b) hc.2.2 (fun q hq => hl q (by simp [hq])) (by split <;> omega) (by split <;> omega)
    · have c' : ¬ p.1 ≤ hi := by omega
      obtain ⟨i1, i2⟩ := behind hc.2.2 (show hi ≤ p.2 by omega)
      obtain ⟨j1, j2⟩ := i2 lo a b hp
      rw [if_neg c, if_neg c', if_pos (show hi < p.1 by omega), i1, j1, j2]
      exact ⟨rfl, rfl⟩
theorem addR_pcs {lo hi : Int} (hlh : lo < hi) : ∀ (L : List (Int × Int)) (h : Int), Can h L → addR lo hi L = preL lo L ++ hullF lo hi lo hi L :: postL hi L := by
  intro L
  induction L with
  | nil => intro h _; rfl
  | cons p R ih =>
    intro h hc
    have h1 := hc.1; have h2 := hc.2.1
    rw [addR]
    split
    · rename_i hx
      rw [preL, if_pos hx, hullF, if_pos hx, postL, if_neg (by omega), ih p.2 hc.2.2]; rfl
    · rename_i hx
      obtain ⟨e1, e2⟩ := addM_pcs hlh (p :: R) h lo hi hc (fun q hq => by
        rcases List.mem_cons.1 hq with rfl | hq
        · omega
        · have := hc.2.2.hi_lt q hq; omega) (Int.le_refl _) (.inl rfl)
      rw [e1, e2]; rfl
theorem add_pcs {L : List (Int × Int)} (hc : canon L = true) {lo hi : Int} (h : lo < hi) : add L lo hi = preL lo L ++ hullF lo hi lo hi L :: postL hi L := by
  obtain ⟨g, hg⟩ := can_ex hc
  rw [add, if_neg (by omega)]
  exact addR_pcs h L g hg

variable {L M : List (Int × Int)} {lo hi a b : Int} {k : Nat}

theorem pre_hit (h : k < L.length) (he : Hid (preL lo L = M ++ preL lo (L.drop k))) (h1 : hiA L k < lo) : Hid (preL lo L = (M ++ [(loA L k, hiA L k)]) ++ preL lo (L.drop (k + 1))) := by
  show _ = _
  rw [he.out, drop_cons h, preL, if_pos (by simpa using h1)]; simp
theorem pre_miss (h : k < L.length) (he : Hid (preL lo L = M ++ preL lo (L.drop k))) (h1 : lo ≤ hiA L k) : Hid (preL lo L = M ++ preL lo (L.drop (k + 1))) := by
  show _ = _
  rw [he.out, drop_cons h, preL, if_neg (by simp; omega)]
theorem pre_end (h : ¬ k < L.length) (he : Hid (preL lo L = M ++ preL lo (L.drop k))) : preL lo L = M := by
  rw [he.out, drop_end h, preL]; simp
theorem hull_before (h : k < L.length) (he : Hid (hullF lo hi lo hi L = hullF lo hi a b (L.drop k))) (h1 : hiA L k < lo) : Hid (hullF lo hi lo hi L = hullF lo hi a b (L.drop (k + 1))) := by
  show _ = _
  rw [he.out, drop_cons h, hullF, if_pos (by simpa using h1)]
theorem hull_in (h : k < L.length) (he : Hid (hullF lo hi lo hi L = hullF lo hi a b (L.drop k))) (h1 : lo ≤ hiA L k) (h2 : loA L k ≤ hi) :
    Hid (hullF lo hi lo hi L = hullF lo hi (if loA L k < a then loA L k else a) (if b < hiA L k then hiA L k else b) (L.drop (k + 1))) := by
  show _ = _
  rw [he.out, drop_cons h, hullF, if_neg (by simp; omega), if_pos (by simpa using h2)]
theorem hull_behind (h : k < L.length) (he : Hid (hullF lo hi lo hi L = hullF lo hi a b (L.drop k))) (h1 : lo ≤ hiA L k) (h2 : hi < loA L k) : Hid (hullF lo hi lo hi L = hullF lo hi a b (L.drop (k + 1))) := by
  show _ = _
  rw [he.out, drop_cons h, hullF, if_neg (by simp; omega), if_neg (by simp; omega)]
theorem hull_end (h : ¬ k < L.length) (he : Hid (hullF lo hi lo hi L = hullF lo hi a b (L.drop k))) : hullF lo hi lo hi L = (a, b) := by
  rw [he.out, drop_end h, hullF]
theorem post_hit {X : List (Int × Int)} (h : k < L.length) (he : Hid (X = M ++ postL hi (L.drop k))) (h1 : hi < loA L k) : Hid (X = (M ++ [(loA L k, hiA L k)]) ++ postL hi (L.drop (k + 1))) := by
  show _ = _
  rw [he.out, drop_cons h, postL, if_pos (by simpa using h1)]; simp
theorem post_miss {X : List (Int × Int)} (h : k < L.length) (he : Hid (X = M ++ postL hi (L.drop k))) (h1 : loA L k ≤ hi) : Hid (X = M ++ postL hi (L.drop (k + 1))) := by
  show _ = _
  rw [he.out, drop_cons h, postL, if_neg (by simp; omega)]
theorem post_end {X : List (Int × Int)} (h : ¬ k < L.length) (he : Hid (X = M ++ postL hi (L.drop k))) : X = M := by
  rw [he.out, drop_end h, postL]; simp

end Go.Proofs.Ymbrbh
