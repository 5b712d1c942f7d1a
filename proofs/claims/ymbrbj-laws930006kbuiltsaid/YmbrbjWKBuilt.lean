import Derived.Test.YmbrbjWCanon
import Derived.Test.YmbrbjLCanon
import Derived.Test.YmbrbjOwn4
import Derived.OpenShut
namespace Go.Proofs.Ymbrbj
open Go.RowKit

theorem RL.u8 {L : List (Int × Int)} {k : Nat} (h : RL .u8 L) (hk : k < L.length) : (0 ≤ loA L k ∧ loA L k ≤ 255) ∧ (0 ≤ hiA L k ∧ hiA L k ≤ 255) :=
  ⟨bounds_u8 (h _ (pair_mem hk)).1, bounds_u8 (h _ (pair_mem hk)).2⟩

set_option maxHeartbeats 2000000 in
theorem walk_KBuilt (st : Int) (v : Value) (S : List (Int × Int)) (w : World) (w0 : (Lit.int .i32 st).wf = true) (hs : Sl .u8 w v S) (hr : RL .u8 S) :
    Calls Ybjm.prog 10 #[.int .i32 st, v] w fun e w' => e = .returned (.bool true) ∧ Below w.heap.size w w' := by
  obtain ⟨a1, a2⟩ := bounds_i32 w0
  clear w0
  obtain ⟨ao, cap, rfl, hl, hm, hcell⟩ := hs
  by_cases hbig : 1024 < S.length
  · clear hcell
    go_enter Ybjm.func10, Ybjm.ntmps10
    go_wp2
    go_ret
    exact ⟨rfl, Below.refl _ _⟩
  · go_enter Ybjm.func10, Ybjm.ntmps10
    go_wp2
    go_loopw [5, 6, 7, 8] (fun v b c i wr => ∃ (k : Nat) (M : List (Int × Int)) (ao' : Option Addr) (cap' : Nat) (cur : Int) (bb : Bool), k ≤ S.length ∧ i = .int .i64 k ∧ v = .slice ao' k cap' ∧ b = .bool bb ∧ c = .int .i64 cur ∧ Own wr w.heap.size ao' cap' k M ∧ Hid (bb = canon M) ∧
        Hid (0 < k → hiA M (k - 1) = cur) ∧ -2147483648 ≤ cur ∧ cur ≤ 2147483647 + 510 * k ∧ Below w.heap.size w wr)
      (fun _ _ _ i _ => S.length - (intOf i).toNat)
    case atStart => exact ⟨0, [], none, 0, st, true, Nat.zero_le _, rfl, rfl, rfl, rfl, Own.nil _ _, rfl, (show _ → _ from fun h => by omega), a1, by omega, Below.refl _ _⟩
    case round =>
      obtain ⟨k, M, ao', cap', cur, bb, hk, rfl, rfl, rfl, rfl, hown, hbb, hcur, hc1, hc2, hbel⟩ := hrel
      have hz := hbel.size
      by_cases hlt : k < S.length
      · obtain ⟨b, off, rfl, hb, hc⟩ := hcell (by omega)
        obtain ⟨hq0, hq1⟩ := hc.get hbel hb hlt
        obtain ⟨⟨g1, g2⟩, g3, g4⟩ := hr.u8 hlt
        have hlen := hown.1
        have key : ∀ c : Bool, ((0 < hiA S k ∧ (0 < k → 0 < loA S k)) ↔ c = true) → canon (M ++ [(cur + loA S k, cur + loA S k + hiA S k)]) = (bb && c) := by
          intro c h
          rw [hbb.out]
          refine canon_snoc_eq M _ c ?_
          rw [← h, hlen]
          constructor
          · rintro ⟨h1, h2⟩
            refine ⟨by simp at h1; omega, fun h0 => ?_⟩
            have e1 := hcur.out h0
            have e2 := h2 h0
            simp at e2; omega
          · rintro ⟨h1, h2⟩
            refine ⟨by simp; omega, fun h0 => ?_⟩
            have e1 := hcur.out h0
            have e2 := h2 h0
            simp; omega
        have hcur' : Hid (0 < k + 1 → hiA (M ++ [(cur + loA S k, cur + loA S k + hiA S k)]) (k + 1 - 1) = cur + loA S k + hiA S k) := by
          intro _
          rw [Nat.add_sub_cancel, ← hlen, hiA_snoc]
        clear hcell hcur hbb hlen
        by_cases e1 : hiA S k = 0
        · have t1 : (hiA S k == 0) = true := by simp [e1]
          have hkey := hide (key false (by simp; omega))
          clear key e1
          rw [Bool.and_false] at hkey
          by_cases e2 : k = 0
          · subst e2
            simp only [Nat.zero_mul, Nat.add_zero] at hq0 hq1
            go_wp2_with (at_builtin; refine wp_app3 _ (cur + loA S 0) (cur + loA S 0 + hiA S 0) rfl _ _ rfl w.heap.size ao' cap' 0 M rfl (hown.alloc _) _ rfl (by simp [go_sem]) (by simp [go_sem]) (by omega) (by simp; omega) ?_; intro ao2 cap2 w2 hown2 hb2 hk2; have hbw2 := (hbel.alloc hz _).trans hb2; obtain ⟨hr0, hr1⟩ := hc.get hbw2 hb hlt; simp only [Nat.zero_mul, Nat.add_zero] at hr0 hr1)
            go_roundw
            case rel => exact ⟨0 + 1, _, ao2, cap2, _, _, by omega, by go_num, by go_num, rfl, rfl, hown2, hkey.out.symm, hcur', by omega, by omega, hbw2⟩
            case measure => simp [intOf]; omega
          · have t3 : (0 : Int) < (k : Int) := by omega
            by_cases e3 : loA S k = 0
            · have t2 : (loA S k == 0) = true := by simp [e3]
              clear e3
              go_wp2_with (at_builtin; refine wp_app3 _ (cur + loA S k) (cur + loA S k + hiA S k) rfl _ _ rfl w.heap.size ao' cap' k M rfl (hown.alloc _) _ rfl (by simp [go_sem]) (by simp [go_sem]) (by omega) (by simp; omega) ?_; intro ao2 cap2 w2 hown2 hb2 hk2; have hbw2 := (hbel.alloc hz _).trans hb2; obtain ⟨hr0, hr1⟩ := hc.get hbw2 hb hlt)
              go_roundw
              case rel => exact ⟨k + 1, _, ao2, cap2, _, _, by omega, by go_num, by go_num, rfl, rfl, hown2, hkey.out.symm, hcur', by omega, by omega, hbw2⟩
              case measure => simp [intOf]; omega
            · have t2 : (loA S k == 0) = false := by simp [e3]
              clear e3
              go_wp2_with (at_builtin; refine wp_app3 _ (cur + loA S k) (cur + loA S k + hiA S k) rfl _ _ rfl w.heap.size ao' cap' k M rfl (hown.alloc _) _ rfl (by simp [go_sem]) (by simp [go_sem]) (by omega) (by simp; omega) ?_; intro ao2 cap2 w2 hown2 hb2 hk2; have hbw2 := (hbel.alloc hz _).trans hb2; obtain ⟨hr0, hr1⟩ := hc.get hbw2 hb hlt)
              go_roundw
              case rel => exact ⟨k + 1, _, ao2, cap2, _, _, by omega, by go_num, by go_num, rfl, rfl, hown2, hkey.out.symm, hcur', by omega, by omega, hbw2⟩
              case measure => simp [intOf]; omega
        · have t1 : (hiA S k == 0) = false := by simp [e1]
          by_cases e2 : k = 0 ∨ 0 < loA S k
          · have hkey := hide (key true (by simp; omega))
            rw [Bool.and_true] at hkey
            clear key e1
            by_cases e3 : k = 0
            · subst e3
              simp only [Nat.zero_mul, Nat.add_zero] at hq0 hq1
              clear e2
              go_wp2_with (at_builtin; refine wp_app3 _ (cur + loA S 0) (cur + loA S 0 + hiA S 0) rfl _ _ rfl w.heap.size ao' cap' 0 M rfl (hown.alloc _) _ rfl (by simp [go_sem]) (by simp [go_sem]) (by omega) (by simp; omega) ?_; intro ao2 cap2 w2 hown2 hb2 hk2; have hbw2 := (hbel.alloc hz _).trans hb2; obtain ⟨hr0, hr1⟩ := hc.get hbw2 hb hlt; simp only [Nat.zero_mul, Nat.add_zero] at hr0 hr1)
              go_roundw
              case rel => exact ⟨0 + 1, _, ao2, cap2, _, _, by omega, by go_num, by go_num, rfl, rfl, hown2, hkey.out.symm, hcur', by omega, by omega, hbw2⟩
              case measure => simp [intOf]; omega
            · have t3 : (0 : Int) < (k : Int) := by omega
              have t2 : (loA S k == 0) = false := by simp; omega
              clear e2
              go_wp2_with (at_builtin; refine wp_app3 _ (cur + loA S k) (cur + loA S k + hiA S k) rfl _ _ rfl w.heap.size ao' cap' k M rfl (hown.alloc _) _ rfl (by simp [go_sem]) (by simp [go_sem]) (by omega) (by simp; omega) ?_; intro ao2 cap2 w2 hown2 hb2 hk2; have hbw2 := (hbel.alloc hz _).trans hb2; obtain ⟨hr0, hr1⟩ := hc.get hbw2 hb hlt)
              go_roundw
              case rel => exact ⟨k + 1, _, ao2, cap2, _, _, by omega, by go_num, by go_num, rfl, rfl, hown2, hkey.out.symm, hcur', by omega, by omega, hbw2⟩
              case measure => simp [intOf]; omega
          · have hkey := hide (key false (by simp; omega))
            rw [Bool.and_false] at hkey
            have t2 : (loA S k == 0) = true := by simp; omega
            have t3 : (0 : Int) < (k : Int) := by omega
            clear key e1 e2
            go_wp2_with (at_builtin; refine wp_app3 _ (cur + loA S k) (cur + loA S k + hiA S k) rfl _ _ rfl w.heap.size ao' cap' k M rfl (hown.alloc _) _ rfl (by simp [go_sem]) (by simp [go_sem]) (by omega) (by simp; omega) ?_; intro ao2 cap2 w2 hown2 hb2 hk2; have hbw2 := (hbel.alloc hz _).trans hb2; obtain ⟨hr0, hr1⟩ := hc.get hbw2 hb hlt)
            go_roundw
            case rel => exact ⟨k + 1, _, ao2, cap2, _, _, by omega, by go_num, by go_num, rfl, rfl, hown2, hkey.out.symm, hcur', by omega, by omega, hbw2⟩
            case measure => simp [intOf]; omega
      · have hfin := hide (show canon M = bb from hbb.out.symm)
        have hsl := hown.sl
        clear hcell
        go_wp2_with fail
        refine (canon_Canonical _ M _ hsl).mono ?_
        rintro e w1 ⟨rfl, hb1⟩
        go_wp2_with fail
        go_ret
        exact ⟨ret_bool (by rw [hfin.out]; simp), hbel.trans (hb1.mono hz)⟩

end Go.Proofs.Ymbrbj
