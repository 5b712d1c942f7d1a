import Derived.Test.YmbrbjWCanon
import Derived.Test.YmbrbjWPush
import Derived.Test.YmbrbjLPush
import Derived.OpenShut
namespace Go.Proofs.Ymbrbj
open Go.RowKit

theorem RL.u8' {L : List (Int × Int)} {k : Nat} (h : RL .u8 L) (hk : k < L.length) : (0 ≤ loA L k ∧ loA L k ≤ 255) ∧ (0 ≤ hiA L k ∧ hiA L k ≤ 255) :=
  ⟨bounds_u8 (h _ (pair_mem hk)).1, bounds_u8 (h _ (pair_mem hk)).2⟩

/-- What the loop keeps of the list and of lo. -/
def Good (M : List (Int × Int)) (lo : Int) : Prop := canon M = true ∧ (0 < M.length → loA M (M.length - 1) ≤ lo)

set_option maxHeartbeats 2000000 in
theorem walk_KPushed (st : Int) (v : Value) (S : List (Int × Int)) (w : World) (w0 : (Lit.int .i32 st).wf = true) (hs : Sl .u8 w v S) (hr : RL .u8 S) :
    Calls Ybjm.prog 11 #[.int .i32 st, v] w fun e w' => e = .returned (.bool true) ∧ Below w.heap.size w w' := by
  obtain ⟨a1, a2⟩ := bounds_i32 w0
  clear w0
  obtain ⟨ao, cap, rfl, hl, hm, hcell⟩ := hs
  by_cases hbig : 1024 < S.length
  · clear hcell
    go_enter Ybjm.func11, Ybjm.ntmps11
    go_wp2
    go_ret
    exact ⟨rfl, Below.refl _ _⟩
  · go_enter Ybjm.func11, Ybjm.ntmps11
    go_wp2
    go_loopw [5, 6, 7] (fun v c i wr => ∃ (k n : Nat) (M : List (Int × Int)) (ao' : Option Addr) (cap' : Nat) (lo : Int), k ≤ S.length ∧ n ≤ k ∧ i = .int .i64 k ∧ v = .slice ao' n cap' ∧ c = .int .i64 lo ∧ Own wr w.heap.size ao' cap' n M ∧ Good M lo ∧
        -2147483648 ≤ lo ∧ lo ≤ 2147483647 + 255 * k ∧ Below w.heap.size w wr)
      (fun _ _ i _ => S.length - (intOf i).toNat)
    case atStart => exact ⟨0, 0, [], none, 0, st, Nat.zero_le _, Nat.le_refl _, rfl, rfl, rfl, Own.nil _ _, ⟨rfl, fun h => absurd h (by simp)⟩, a1, by omega, Below.refl _ _⟩
    case round =>
      obtain ⟨k, n, M, ao', cap', lo, hk, hnk, rfl, rfl, rfl, hown, hgood, hc1, hc2, hbel⟩ := hrel
      have hz := hbel.size
      by_cases hlt : k < S.length
      · obtain ⟨b, off, rfl, hb, hc⟩ := hcell (by omega)
        obtain ⟨hq0, hq1⟩ := hc.get hbel hb hlt
        obtain ⟨⟨g1, g2⟩, g3, g4⟩ := hr.u8' hlt
        obtain ⟨r1, r2, r3⟩ := push_canon (p := (lo + loA S k, lo + loA S k + hiA S k + 1)) hgood.1 (fun h => Int.le_trans (hgood.2 h) (by simp; omega)) (by simp; omega)
        have hg' : Good (pushL M (lo + loA S k, lo + loA S k + hiA S k + 1)) (lo + loA S k) := ⟨r1, fun _ => r3⟩
        have hpl := pushL_length M (lo + loA S k, lo + loA S k + hiA S k + 1)
        have hM := hown.1
        clear hcell hc r1 r2 r3 hgood
        go_wp2_with fail
        refine (push_any ao' cap' n w.heap.size M _ _ _ hown (by omega) (by omega)).mono ?_
        rintro e w2 ⟨ao2, cap2, n2, rfl, hown2, hb2⟩
        have hn2 : n2 ≤ n + 1 := by have := hown2.1; omega
        clear hM hpl
        go_wp2_with fail
        go_roundw
        case rel => exact ⟨k + 1, n2, _, ao2, cap2, _, by omega, by omega, by go_num, rfl, rfl, hown2, hg', by omega, by omega, hbel.trans hb2⟩
        case measure => simp [intOf]; omega
      · have hfin := hide hgood.1
        have hsl := hown.sl
        clear hcell hgood
        go_wp2_with fail
        refine (canon_Canonical _ M _ hsl).mono ?_
        rintro e w1 ⟨rfl, hb1⟩
        go_wp2_with fail
        go_ret
        exact ⟨ret_bool hfin.out, hbel.trans (hb1.mono hz)⟩

end Go.Proofs.Ymbrbj
