import Derived.Test.YmbrbjProg
import Derived.Test.YmbrbjThy
import Derived.Deep.QuietTactic
import Derived.BigQuiet
namespace Go.Proofs.Ymbrbj
open Go.RowKit

theorem has_iff (L : List (Int × Int)) (x : Int) : has L x = true ↔ ∃ p ∈ L, p.1 ≤ x ∧ x < p.2 := by
  induction L with
  | nil => simp [has]
  | cons p R ih => simp [has, ih]

def insideL : List (Int × Int) → Int → Int → Bool
  | [], _, _ => false
  | q :: R, lo, hi => (decide (q.1 ≤ lo) && decide (hi ≤ q.2)) || insideL R lo hi

theorem in_yes {L : List (Int × Int)} {lo hi : Int} {k : Nat} (h : k < L.length) (he : Hid (insideL L lo hi = insideL (L.drop k) lo hi)) (h1 : loA L k ≤ lo) (h2 : hi ≤ hiA L k) : insideL L lo hi = true := by
  rw [he.out, drop_cons h, insideL]; simp [h1, h2]
theorem in_step {L : List (Int × Int)} {lo hi : Int} {k : Nat} (h : k < L.length) (he : Hid (insideL L lo hi = insideL (L.drop k) lo hi)) (h1 : ¬ (loA L k ≤ lo ∧ hi ≤ hiA L k)) : Hid (insideL L lo hi = insideL (L.drop (k + 1)) lo hi) := by
  show _ = _
  rw [he.out, drop_cons h, insideL]
  have : (decide (loA L k ≤ lo) && decide (hi ≤ hiA L k)) = false := by
    rw [Bool.eq_false_iff]; simp; intro a; have := fun b => h1 ⟨a, b⟩; omega
  simp only [this, Bool.false_or]
theorem in_end {L : List (Int × Int)} {lo hi : Int} {k : Nat} (h : ¬ k < L.length) (he : Hid (insideL L lo hi = insideL (L.drop k) lo hi)) : insideL L lo hi = false := by
  rw [he.out, drop_end h, insideL]

theorem inside_of : ∀ {S : List (Int × Int)} {h lo hi : Int}, Can h S → lo < hi → (∀ x, lo ≤ x → x < hi → has S x = true) → insideL S lo hi = true := by
  intro S
  induction S with
  | nil => intro h lo hi _ h1 h2; have := h2 lo (Int.le_refl _) h1; simp [has] at this
  | cons p R ih =>
    intro h lo hi hc h1 h2
    rw [insideL, Bool.or_eq_true]
    rcases (has_cons p R lo).1 (h2 lo (Int.le_refl _) h1) with ⟨u, v⟩ | u
    · left
      have : hi ≤ p.2 := by
        rcases Int.lt_or_le p.2 hi with c | c
        · exfalso
          rcases (has_cons p R p.2).1 (h2 p.2 (by omega) c) with ⟨_, x⟩ | x
          · omega
          · have := hc.2.2.lt x; omega
        · exact c
      simp [u, this]
    · right
      have hlt := hc.2.2.lt u
      refine ih hc.2.2 h1 fun x a b => ?_
      rcases (has_cons p R x).1 (h2 x a b) with ⟨_, y⟩ | y
      · omega
      · exact y

set_option maxHeartbeats 1000000 in
theorem inside_any (v : Value) (L : List (Int × Int)) (lo hi : Int) (w : World) (hs : Sl .i64 w v L) :
    Calls Ybjm.prog 17 #[v, .agg #[.int .i64 lo, .int .i64 hi]] w fun e w' => e = .returned (.bool (insideL L lo hi)) ∧ Below w.heap.size w w' := by
  obtain ⟨ao, cap, rfl, hl, hm, hcell⟩ := hs
  go_enter Ybjm.func17, Ybjm.ntmps17
  go_wp2
  go_loopw [5] (fun i wr => ∃ k : Nat, k ≤ L.length ∧ i = .int .i64 k ∧ Hid (insideL L lo hi = insideL (L.drop k) lo hi) ∧ Below (w.heap.size + 1) (w.alloc (.cells #[.int .i64 lo, .int .i64 hi] 28)) wr) (fun i _ => L.length - (intOf i).toNat)
  case atStart => exact ⟨0, Nat.zero_le _, rfl, rfl, Below.refl _ _⟩
  case round =>
    obtain ⟨k, hk, rfl, he, hbel⟩ := hrel
    have hp0 : wr.cell? ⟨w.heap.size, 0, none⟩ = some (.int .i64 lo) := (hbel.cell (p := ⟨w.heap.size, 0, none⟩) (by simp)).trans (by simp [go_sem])
    have hp1 : wr.cell? ⟨w.heap.size, 1, none⟩ = some (.int .i64 hi) := (hbel.cell (p := ⟨w.heap.size, 1, none⟩) (by simp)).trans (by simp [go_sem])
    have hbw : Below w.heap.size w wr := ((Below.refl _ _).alloc (Nat.le_refl _) _).trans (hbel.mono (by omega))
    by_cases hlt : k < L.length
    · obtain ⟨b, off, rfl, hb, hc⟩ := hcell (by omega)
      obtain ⟨hc0, hc1⟩ := hc.get hbw hb hlt
      clear hc hcell
      by_cases h1 : loA L k ≤ lo
      · by_cases h2 : hi ≤ hiA L k
        · have hn : Hid (insideL L lo hi = true) := in_yes hlt he h1 h2
          go_wp2
          go_quiet (fail)
          go_wp2
          go_ret
          exact ⟨ret_bool hn.out.symm, below_drewN hbw _⟩
        · have hst := in_step hlt he (fun h => h2 h.2)
          go_wp2
          go_quiet (fail)
          go_wp2
          go_roundw
          case rel => exact ⟨k + 1, by omega, by go_num, hst, below_drewN hbel _⟩
          case measure => simp [intOf]; omega
      · have hst := in_step hlt he (fun h => h1 h.1)
        have hd : decide (loA L k ≤ lo) = false := decide_eq_false h1
        clear h1
        go_wp2
        go_quiet (fail)
        go_wp2
        go_roundw
        case rel => exact ⟨k + 1, by omega, by go_num, hst, below_drewN hbel _⟩
        case measure => simp [intOf]; omega
    · clear hcell
      go_wp2
      go_ret
      exact ⟨ret_bool (in_end (by omega) he).symm, hbw⟩

end Go.Proofs.Ymbrbj
