import Derived.Test.YmbrbhOwn4
import Derived.Test.YmbrbhPPush
import Derived.Deep.QuietTactic
import Derived.BigQuiet
namespace Go.Proofs.Ymbrbh
open Go.RowKit

theorem Own.g {w : World} {base : Nat} {ao : Option Addr} {cap n : Nat} {L : List (Int × Int)} (h : Own w base ao cap n L) (hn : 0 < n) : ∃ g, ao = some ⟨g, 0, none⟩ := by
  rcases h.2.2 with ⟨_, h0⟩ | ⟨g, c, cur, e1, _⟩
  · omega
  · simp only [Value.slice.injEq, true_and] at e1
    exact ⟨g, e1.1⟩

theorem Own.storeHi {w : World} {base g cap n : Nat} {L : List (Int × Int)} (h : Own w base (some ⟨g, 0, none⟩) cap n L) {k : Nat} (hk : k < n) (hi : Int) :
    Own (w.setCell ⟨g, k * 2 + 1, none⟩ (.int .i64 hi)) base (some ⟨g, 0, none⟩) cap n (L.set k (loA L k, hi)) := by
  obtain ⟨h1, h2⟩ := h
  have h4 := h2.stored (k * 2 + 1) (.int .i64 hi)
  refine ⟨by simpa using h1, ?_⟩
  rw [← cellsL_set L k (loA L k, hi) (by omega)]
  have e : (cellsL L).set (k * 2) (.int .i64 (loA L k)) = cellsL L := by
    apply List.ext_getElem?
    intro j
    rw [List.getElem?_set]
    split
    · rename_i hj
      subst hj
      rw [if_pos (by rw [cellsL_length]; omega), (cellsL_at L k (by omega)).1]
    · rfl
  simp only [e]
  exact h4.1

set_option maxHeartbeats 1000000 in
theorem push_any (ao : Option Addr) (cap n base : Nat) (M : List (Int × Int)) (lo hi : Int) (w : World) (hown : Own w base ao cap n M) (hn : n ≤ 1000000) (hbase : base ≤ w.heap.size) :
    Calls Ybhm.prog 30 #[.slice ao n cap, .agg #[.int .i64 lo, .int .i64 hi]] w fun e w' => ∃ ao' cap' n', e = .returned (.slice ao' n' cap') ∧ Own w' base ao' cap' n' (pushL M (lo, hi)) ∧ Below base w w' := by
  have hM := hown.1
  by_cases h0 : n = 0
  · subst h0
    have hp := hide (show pushL M (lo, hi) = M ++ [(lo, hi)] from by rw [pushL, if_pos hM])
    clear hM
    go_enter Ybhm.func30, Ybhm.ntmps30
    go_wp2
    go_quiet (fail)
    go_wp2_with (at_builtin; refine wp_app3 _ lo hi rfl _ _ rfl base ao cap 0 M rfl (by first | exact ((hown.alloc _).alloc _).drewN _ | exact ((hown.alloc _).drewN _).alloc _) _ rfl (by simp [go_sem]) (by simp [go_sem]) (by omega) (by simp [go_sem]; omega) ?_; intro ao2 cap2 w2 hown2 hb2 hk2)
    go_ret
    refine ⟨ao2, cap2, 1, rfl, by rw [hp.out]; exact hown2, ?_⟩
    refine Below.trans ?_ hb2
    exact below_drewN (((Below.refl base w).alloc hbase _).alloc (by simp; omega) _) _
  · obtain ⟨g, rfl⟩ := hown.g (by omega)
    obtain ⟨m, rfl⟩ : ∃ m, n = m + 1 := ⟨n - 1, by omega⟩
    have hg := hown.base_le
    have hne : ((m : Int) + 1 == 0) = false := by simp; omega
    have hc0 := hown.lo (k := m) (by omega)
    have hc1 := hown.hi (k := m) (by omega)
    have hfz := hown.froz (m * 2 + 1)
    have hlast : M.length - 1 = m := by omega
    have hgl : g < w.heap.size := hg.2
    rcases Int.lt_or_le (hiA M m) lo with c1 | c1
    · have hp := hide (show pushL M (lo, hi) = M ++ [(lo, hi)] from by rw [pushL, if_neg (by omega), hlast, if_pos (by simpa using c1)])
      clear hM hlast h0
      go_enter Ybhm.func30, Ybhm.ntmps30
      go_wp2
      go_quiet (fail)
      go_wp2_with (at_builtin; refine wp_app3 _ lo hi rfl _ _ rfl base _ cap (m + 1) M rfl (by first | exact ((hown.alloc _).alloc _).drewN _ | exact ((hown.alloc _).drewN _).alloc _) _ rfl (by simp [go_sem]) (by simp [go_sem]) (by omega) (by simp [go_sem]; omega) ?_; intro ao2 cap2 w2 hown2 hb2 hk2)
      go_ret
      refine ⟨ao2, cap2, m + 1 + 1, rfl, by rw [hp.out]; exact hown2, ?_⟩
      refine Below.trans ?_ hb2
      exact below_drewN (((Below.refl base w).alloc hbase _).alloc (by simp; omega) _) _
    · rcases Int.lt_or_le (hiA M m) hi with c2 | c2
      · have hp := hide (show pushL M (lo, hi) = M.set m (loA M m, hi) from by rw [pushL, if_neg (by omega), hlast, if_neg (by simp; omega), if_pos (by simpa using c2)])
        clear hM hlast h0
        go_enter Ybhm.func30, Ybhm.ntmps30
        go_wp2
        go_quiet (fail)
        go_wp2
        go_quiet (fail)
        go_wp2
        go_ret
        refine ⟨_, cap, m + 1, rfl, by rw [hp.out]; first | exact ((hown.alloc _).drewN _).storeHi (by omega) hi | exact (((hown.alloc _).drewN _).drewN _).storeHi (by omega) hi, ?_⟩
        first | exact (below_drewN ((Below.refl base w).alloc hbase _) _).setCell hg.1 _ | exact (below_drewN (below_drewN ((Below.refl base w).alloc hbase _) _) _).setCell hg.1 _
      · have hp := hide (show pushL M (lo, hi) = M from by rw [pushL, if_neg (by omega), hlast, if_neg (by simp; omega), if_neg (by simp; omega)])
        clear hM hlast h0
        go_enter Ybhm.func30, Ybhm.ntmps30
        go_wp2
        go_quiet (fail)
        go_wp2
        go_quiet (fail)
        go_wp2
        go_ret
        refine ⟨_, cap, m + 1, rfl, by rw [hp.out]; first | exact (hown.alloc _).drewN _ | exact ((hown.alloc _).drewN _).drewN _, ?_⟩
        first | exact below_drewN ((Below.refl base w).alloc hbase _) _ | exact below_drewN (below_drewN ((Below.refl base w).alloc hbase _) _) _

end Go.Proofs.Ymbrbh
