import Derived.Test.YmbrbhOwn4
import Derived.Test.YmbrbhThy
import Derived.OpenShut
namespace Go.Proofs.Ymbrbh
open Go.RowKit

/-- What abuild lays, plainly: gaps and lengths, from lo on, till the next bound would pass the greatest int64. -/
def buildA : Int → List (Int × Int) → List (Int × Int)
  | _, [] => []
  | lo, s :: R => if 9223372036854775807 - lo ≤ s.2 then [] else (lo, lo + s.2 + 1) :: (if 9223372036854775807 - (lo + s.2 + 1) ≤ s.1 then [] else buildA (lo + s.2 + 1 + s.1 + 1) R)

variable {S M : List (Int × Int)} {lo st : Int} {k : Nat}

theorem ab_stop (h : k < S.length) (he : Hid (buildA st S = M ++ buildA lo (S.drop k))) (h1 : 9223372036854775807 - lo ≤ hiA S k) : buildA st S = M := by
  rw [he.out, drop_cons h, buildA, if_pos (by simpa using h1)]; simp
theorem ab_last (h : k < S.length) (he : Hid (buildA st S = M ++ buildA lo (S.drop k))) (h1 : hiA S k < 9223372036854775807 - lo) (h2 : 9223372036854775807 - (lo + hiA S k + 1) ≤ loA S k) : buildA st S = M ++ [(lo, lo + hiA S k + 1)] := by
  rw [he.out, drop_cons h, buildA, if_neg (by simp; omega), if_pos (by simpa using h2)]
theorem ab_step (h : k < S.length) (he : Hid (buildA st S = M ++ buildA lo (S.drop k))) (h1 : hiA S k < 9223372036854775807 - lo) (h2 : loA S k < 9223372036854775807 - (lo + hiA S k + 1)) :
    Hid (buildA st S = (M ++ [(lo, lo + hiA S k + 1)]) ++ buildA (lo + hiA S k + 1 + loA S k + 1) (S.drop (k + 1))) := by
  show _ = _
  rw [he.out, drop_cons h, buildA, if_neg (by simp; omega), if_neg (by simp; omega)]; simp
theorem ab_end (h : ¬ k < S.length) (he : Hid (buildA st S = M ++ buildA lo (S.drop k))) : buildA st S = M := by
  rw [he.out, drop_end h, buildA]; simp
theorem ab_room {lo : Int} (h1 : -9223372036854775808 ≤ lo) (h2 : lo ≤ 9223372036854775807) : IntKind.u64.wrap (9223372036854775807 - IntKind.u64.wrap lo) = 9223372036854775807 - lo := by
  rw [IntKind.wrap_u64, IntKind.wrap_u64]; omega
theorem ab_next {lo n : Int} (h1 : -9223372036854775808 ≤ lo) (h2 : lo ≤ 9223372036854775807) (h3 : 0 ≤ n) (h4 : n < 9223372036854775807 - lo) : wrap64 (IntKind.u64.wrap (IntKind.u64.wrap (IntKind.u64.wrap lo + n) + 1)) = lo + n + 1 := by
  rw [IntKind.wrap_u64, IntKind.wrap_u64, IntKind.wrap_u64]; unfold wrap64; omega

theorem buildA_can : ∀ (S : List (Int × Int)) (lo : Int), (∀ s ∈ S, 0 ≤ s.1 ∧ 0 ≤ s.2) → Can (lo - 1) (buildA lo S) := by
  intro S
  induction S with
  | nil => intro lo _; exact trivial
  | cons s R ih =>
    intro lo h
    have hs := h s (by simp)
    rw [buildA]
    split
    · exact trivial
    · refine ⟨by simp; omega, by simp; omega, ?_⟩
      split
      · exact trivial
      · exact (ih _ (fun r hr => h r (by simp [hr]))).mono (by simp; omega)
theorem buildA_length : ∀ (S : List (Int × Int)) (lo : Int), (buildA lo S).length ≤ S.length := by
  intro S
  induction S with
  | nil => intro lo; simp [buildA]
  | cons s R ih =>
    intro lo
    rw [buildA]
    split
    · simp
    · split
      · simp
      · have := ih (lo + s.2 + 1 + s.1 + 1); simp; omega

theorem RL.u64at {S : List (Int × Int)} {k : Nat} (h : RL .u64 S) (hk : k < S.length) : (0 ≤ loA S k ∧ loA S k ≤ 18446744073709551615) ∧ (0 ≤ hiA S k ∧ hiA S k ≤ 18446744073709551615) :=
  ⟨bounds_u64 (h _ (pair_mem hk)).1, bounds_u64 (h _ (pair_mem hk)).2⟩
theorem buildA_canon {S : List (Int × Int)} (h : RL .u64 S) (lo : Int) : canon (buildA lo S) = true :=
  (buildA_can S lo fun s hs => ⟨(bounds_u64 (h s hs).1).1, (bounds_u64 (h s hs).2).1⟩).canon

set_option maxHeartbeats 2000000 in
theorem abuild_any (st : Int) (v : Value) (S : List (Int × Int)) (w : World) (a1 : -9223372036854775808 ≤ st) (a2 : st ≤ 9223372036854775807) (hs : Sl .u64 w v S) (hr : RL .u64 S) (hn : S.length ≤ 1024) :
    Calls Ybhm.prog 15 #[.int .i64 st, v] w fun e w' => ∃ v', e = .returned v' ∧ Sl .i64 w' v' (buildA st S) ∧ Fr w.heap.size v' ∧ Below w.heap.size w w' := by
  obtain ⟨ao, cap, rfl, hl, hm, hcell⟩ := hs
  go_enter Ybhm.func15, Ybhm.ntmps15
  go_wp2_with (at_make; refine wp_mk0 _ w.heap.size rfl rfl _ _ rfl _ S.length rfl rfl (by omega) (by omega) ?_; intro w1 hown1 hb1)
  go_loopw [5, 6, 7] (fun v l i wr => ∃ (k : Nat) (M : List (Int × Int)) (ao' : Option Addr) (cap' : Nat) (lo : Int), k ≤ S.length ∧ i = .int .i64 k ∧ v = .slice ao' k cap' ∧ l = .int .i64 lo ∧ Own wr w.heap.size ao' cap' k M ∧ Hid (buildA st S = M ++ buildA lo (S.drop k)) ∧
      -9223372036854775808 ≤ lo ∧ lo ≤ 9223372036854775807 ∧ Below w.heap.size w wr)
    (fun _ _ i _ => S.length - (intOf i).toNat)
  case atStart => exact ⟨0, [], _, _, st, Nat.zero_le _, rfl, rfl, rfl, hown1, rfl, a1, a2, hb1⟩
  case round =>
    obtain ⟨k, M, ao', cap', lo, hk, rfl, rfl, rfl, hown, he, g1, g2, hbel⟩ := hrel
    have hz := hbel.size
    clear hown1 hb1
    by_cases hlt : k < S.length
    · obtain ⟨b, off, rfl, hb, hc⟩ := hcell (by omega)
      obtain ⟨hc0, hc1⟩ := hc.get hbel hb hlt
      obtain ⟨⟨t1, t2⟩, t3, t4⟩ := hr.u64at hlt
      have hroom := ab_room g1 g2
      rcases Int.lt_or_le (hiA S k) (9223372036854775807 - lo) with c1 | c1
      · have hnext := ab_next g1 g2 t3 c1
        have hroom2 := ab_room (lo := lo + hiA S k + 1) (by omega) (by omega)
        rcases Int.lt_or_le (loA S k) (9223372036854775807 - (lo + hiA S k + 1)) with c2 | c2
        · have hst := ab_step hlt he c1 c2
          have hnext2 := hide (ab_next (lo := lo + hiA S k + 1) (by omega) (by omega) t1 c2)
          clear hcell he
          go_wp2_with (at_builtin; refine wp_app3 _ lo (lo + hiA S k + 1) rfl _ _ rfl w.heap.size ao' cap' k M rfl (hown.alloc _) _ rfl (by simp [go_sem]) (by simp [go_sem]) (by omega) (by simp; omega) ?_; intro ao2 cap2 w2 hown2 hb2 hk2; have hbw2 := (hbel.alloc hz _).trans hb2; obtain ⟨hr0, hr1⟩ := hc.get hbw2 hb hlt)
          go_roundw
          case rel => exact ⟨k + 1, _, ao2, cap2, lo + hiA S k + 1 + loA S k + 1, by omega, by go_num, by go_num, by first | rfl | rw [hnext2.out], hown2, hst, by omega, by omega, hbw2⟩
          case measure => simp [intOf]; omega
        · have hfin := hide (ab_last hlt he c1 c2)
          clear hcell he
          go_wp2_with (at_builtin; refine wp_app3 _ lo (lo + hiA S k + 1) rfl _ _ rfl w.heap.size ao' cap' k M rfl (hown.alloc _) _ rfl (by simp [go_sem]) (by simp [go_sem]) (by omega) (by simp; omega) ?_; intro ao2 cap2 w2 hown2 hb2 hk2; have hbw2 := (hbel.alloc hz _).trans hb2; obtain ⟨hr0, hr1⟩ := hc.get hbw2 hb hlt)
          go_ret
          exact ⟨_, rfl, by rw [hfin.out]; exact hown2.sl, hown2.fr, hbw2⟩
      · have hfin := hide (ab_stop hlt he c1)
        clear hcell he hc
        go_wp2_with fail
        go_ret
        exact ⟨_, rfl, by rw [hfin.out]; exact hown.sl, hown.fr, hbel⟩
    · have hfin := hide (ab_end hlt he)
      clear hcell he
      go_wp2_with fail
      go_ret
      exact ⟨_, rfl, by rw [hfin.out]; exact hown.sl, hown.fr, hbel⟩

end Go.Proofs.Ymbrbh
