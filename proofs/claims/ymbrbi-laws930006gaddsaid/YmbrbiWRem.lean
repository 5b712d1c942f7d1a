import Derived.Test.YmbrbiOwn3
import Derived.Test.YmbrbiPRem
namespace Go.Proofs.Ymbrbi
open Go.RowKit

/-- lo >= hi: the set itself. -/
theorem rem_same (v : Value) (L : List (Int × Int)) (lo hi : Int) (w : World) (hs : Sl .i64 w v L) (h0 : hi ≤ lo) :
    Calls Ybim.prog 23 #[.agg #[v], .int .i64 lo, .int .i64 hi] w fun e w' => ∃ v', e = .returned (.agg #[v']) ∧ Sl .i64 w' v' (remove L lo hi) ∧ New w.heap.size v v' ∧ Below w.heap.size w w' := by
  have hs' := hs
  obtain ⟨ao, cap, rfl, hl, hm, hcell⟩ := hs
  clear hcell
  go_enter Ybim.func23, Ybim.ntmps23
  go_wp2
  refine bodyPost_ret (v := .agg #[.slice ao L.length cap]) (by simp [results, Ybim.results23, go_sem]) rfl ⟨_, rfl, ?_, .inl rfl, ((Below.refl _ _).alloc (Nat.le_refl _) _).alloc (by simp) _⟩
  rw [remove, if_pos h0]
  exact (hs'.alloc _).alloc _

set_option maxHeartbeats 2000000 in
theorem rem_cut (v : Value) (L : List (Int × Int)) (lo hi : Int) (w : World) (hs : Sl .i64 w v L) (h0 : lo < hi) (hn : L.length ≤ 100000) :
    Calls Ybim.prog 23 #[.agg #[v], .int .i64 lo, .int .i64 hi] w fun e w' => ∃ v', e = .returned (.agg #[v']) ∧ Sl .i64 w' v' (remove L lo hi) ∧ New w.heap.size v v' ∧ Below w.heap.size w w' := by
  obtain ⟨ao, cap, rfl, hl, hm, hcell⟩ := hs
  have hinit := rem_start (L := L) h0
  go_enter Ybim.func23, Ybim.ntmps23
  go_wp2_with (at_make; refine wp_mk0 _ (w.heap.size + 2) (by simp) rfl _ _ rfl _ (L.length + 1) rfl rfl (by omega) (by omega) ?_; intro w1 hown1 hb1)
  have hbw : Below w.heap.size w w1 := (((Below.refl _ _).alloc (Nat.le_refl _) _).alloc (by simp) _).trans (hb1.mono (by omega))
  have hz1 : w.heap.size + 2 ≤ w1.heap.size := by have := hb1.size; simp at this; omega
  have hbox1 : w1.cell? ⟨w.heap.size, 0, none⟩ = some (.slice ao L.length cap) := by rw [hb1.cell (p := ⟨w.heap.size, 0, none⟩) (by simp)]; simp [go_sem]
  have hres1 : w1.cell? ⟨w.heap.size + 1, 0, none⟩ = some (.slice none 0 0) := by rw [hb1.cell (p := ⟨w.heap.size + 1, 0, none⟩) (by simp)]; simp [go_sem]
  have hfr1 : w1.frozen? ⟨w.heap.size + 1, 0, none⟩ = false := by rw [hb1.frozen (p := ⟨w.heap.size + 1, 0, none⟩) (by simp)]; simp [go_sem]
  clear hb1
  go_loopw [7, 8] (fun v i wr => ∃ (k n : Nat) (M : List (Int × Int)) (ao' : Option Addr) (cap' : Nat), k ≤ L.length ∧ n ≤ 2 * k ∧ i = .int .i64 k ∧ v = .slice ao' n cap' ∧ Own wr (w.heap.size + 2) ao' cap' n M ∧ Hid (remove L lo hi = M ++ remF lo hi (L.drop k)) ∧ Below (w.heap.size + 2) w1 wr)
    (fun _ i _ => L.length - (intOf i).toNat)
  case atStart => exact ⟨0, 0, [], _, _, Nat.zero_le _, Nat.le_refl _, rfl, rfl, hown1, hinit, Below.refl _ _⟩
  case round =>
    obtain ⟨k, n, M, ao', cap', hk, hnk, rfl, rfl, hown, he, hbel⟩ := hrel
    have hbox := (hbel.cell (p := ⟨w.heap.size, 0, none⟩) (by simp)).trans hbox1
    have hz := hbel.size
    clear hown1 hinit
    by_cases hlt : k < L.length
    · obtain ⟨b, off, rfl, hb, hc⟩ := hcell (by omega)
      obtain ⟨hc0, hc1⟩ := hc.get (hbw.trans (hbel.mono (by omega))) hb hlt
      clear hc hcell
      rcases Int.lt_or_le (loA L k) lo with c1 | c1
      · rcases Int.lt_or_le lo (hiA L k) with c2 | c2
        · rcases Int.lt_or_le hi (hiA L k) with c3 | c3
          · have hst := rem_step hlt he [(loA L k, lo), (hi, hiA L k)] (by simp [remP, c1, c2, c3]; omega)
            clear he
            go_wp2_with (first | (at_builtin; refine wp_app2 _ _ _ rfl _ _ rfl (w.heap.size + 2) ao' cap' n M rfl ((hown.alloc _).alloc _) _ rfl (by simp) (by omega) (by simp; omega) ?_; intro ao2 cap2 w2 hown2 hb2 hk2; have hz2 := hb2.size; simp only [World.size_alloc] at hz2; have hbx2 := (hbel.trans ((((Below.refl _ _).alloc (by omega) _).alloc (by simp; omega) _).trans hb2)); have hq0 := (hk2.cell (b := wr.heap.size) (o := 0) (by simp; omega) (hown.ne (Nat.le_refl _))).trans (show _ = some (.int .i64 (loA L k)) by simp [go_sem]); have hq1 := (hk2.cell (b := wr.heap.size) (o := 1) (by simp; omega) (hown.ne (Nat.le_refl _))).trans (show _ = some (.int .i64 (hiA L k)) by simp [go_sem])) | (at_builtin; refine wp_app2 _ _ _ rfl _ _ rfl (w.heap.size + 2) ao2 cap2 (n + 1) _ rfl (hown2.alloc _) _ rfl (by simp) (by omega) (by simp; omega) ?_; intro ao3 cap3 w3 hown3 hb3 hk3))
            go_roundw
            case rel => exact ⟨k + 1, n + 1 + 1, _, ao3, cap3, by omega, by omega, by go_num, rfl, hown3, by simpa using hst, (hbx2.alloc (by omega) _).trans hb3⟩
            case measure => simp [intOf]; omega
          · have hst := rem_step hlt he [(loA L k, lo)] (by simp [remP, c1, c2]; omega)
            clear he
            go_wp2_with (at_builtin; refine wp_app2 _ _ _ rfl _ _ rfl (w.heap.size + 2) ao' cap' n M rfl ((hown.alloc _).alloc _) _ rfl (by simp) (by omega) (by simp; omega) ?_; intro ao2 cap2 w2 hown2 hb2 hk2; have hz2 := hb2.size; simp only [World.size_alloc] at hz2; have hbx2 := (hbel.trans ((((Below.refl _ _).alloc (by omega) _).alloc (by simp; omega) _).trans hb2)); have hq0 := (hk2.cell (b := wr.heap.size) (o := 0) (by simp; omega) (hown.ne (Nat.le_refl _))).trans (show _ = some (.int .i64 (loA L k)) by simp [go_sem]); have hq1 := (hk2.cell (b := wr.heap.size) (o := 1) (by simp; omega) (hown.ne (Nat.le_refl _))).trans (show _ = some (.int .i64 (hiA L k)) by simp [go_sem]))
            go_roundw
            case rel => exact ⟨k + 1, n + 1, _, ao2, cap2, by omega, by omega, by go_num, rfl, hown2, hst, hbx2⟩
            case measure => simp [intOf]; omega
        · have hst := rem_step hlt he [(loA L k, hiA L k)] (by simp [remP, c1]; omega)
          clear he
          go_wp2_with (at_builtin; refine wp_app2 _ _ _ rfl _ _ rfl (w.heap.size + 2) ao' cap' n M rfl ((hown.alloc _).alloc _) _ rfl (by simp) (by omega) (by simp; omega) ?_; intro ao2 cap2 w2 hown2 hb2 hk2; have hz2 := hb2.size; simp only [World.size_alloc] at hz2; have hbx2 := (hbel.trans ((((Below.refl _ _).alloc (by omega) _).alloc (by simp; omega) _).trans hb2)); have hq0 := (hk2.cell (b := wr.heap.size) (o := 0) (by simp; omega) (hown.ne (Nat.le_refl _))).trans (show _ = some (.int .i64 (loA L k)) by simp [go_sem]); have hq1 := (hk2.cell (b := wr.heap.size) (o := 1) (by simp; omega) (hown.ne (Nat.le_refl _))).trans (show _ = some (.int .i64 (hiA L k)) by simp [go_sem]))
          go_roundw
          case rel => exact ⟨k + 1, n + 1, _, ao2, cap2, by omega, by omega, by go_num, rfl, hown2, hst, hbx2⟩
          case measure => simp [intOf]; omega
      · rcases Int.lt_or_le hi (hiA L k) with c3 | c3
        · rcases Int.lt_or_le (loA L k) hi with c4 | c4
          · have hst := rem_step hlt he [(hi, hiA L k)] (by simp [remP, c3, c4]; omega)
            clear he
            go_wp2_with (at_builtin; refine wp_app2 _ _ _ rfl _ _ rfl (w.heap.size + 2) ao' cap' n M rfl ((hown.alloc _).alloc _) _ rfl (by simp) (by omega) (by simp; omega) ?_; intro ao2 cap2 w2 hown2 hb2 hk2; have hz2 := hb2.size; simp only [World.size_alloc] at hz2; have hbx2 := (hbel.trans ((((Below.refl _ _).alloc (by omega) _).alloc (by simp; omega) _).trans hb2)))
            go_roundw
            case rel => exact ⟨k + 1, n + 1, _, ao2, cap2, by omega, by omega, by go_num, rfl, hown2, hst, hbx2⟩
            case measure => simp [intOf]; omega
          · have hst := rem_step hlt he [(loA L k, hiA L k)] (by rw [remP, if_neg (by simp; omega), if_pos (by simpa using c3), if_neg (by simp; omega)]; rfl)
            clear he
            go_wp2_with (at_builtin; refine wp_app2 _ _ _ rfl _ _ rfl (w.heap.size + 2) ao' cap' n M rfl ((hown.alloc _).alloc _) _ rfl (by simp) (by omega) (by simp; omega) ?_; intro ao2 cap2 w2 hown2 hb2 hk2; have hz2 := hb2.size; simp only [World.size_alloc] at hz2; have hbx2 := (hbel.trans ((((Below.refl _ _).alloc (by omega) _).alloc (by simp; omega) _).trans hb2)))
            go_roundw
            case rel => exact ⟨k + 1, n + 1, _, ao2, cap2, by omega, by omega, by go_num, rfl, hown2, hst, hbx2⟩
            case measure => simp [intOf]; omega
        · have hst := rem_step hlt he [] (by simp [remP]; omega)
          go_wp2_with fail
          go_roundw
          case rel => exact ⟨k + 1, n, _, ao', cap', by omega, by omega, by go_num, rfl, hown.alloc _, by simpa using hst, hbel.alloc (by omega) _⟩
          case measure => simp [intOf]; omega
    · have hres := (hbel.cell (p := ⟨w.heap.size + 1, 0, none⟩) (by simp)).trans hres1
      have hfr := (hbel.frozen (p := ⟨w.heap.size + 1, 0, none⟩) (by simp)).trans hfr1
      clear hcell
      go_wp2
      refine bodyPost_ret (v := .agg #[.slice ao' n cap']) (by simp [results, Ybim.results23, go_sem, hres]) rfl ⟨_, rfl, ?_, .inr (fun g hg => Nat.le_trans (by omega) (hown.fr g hg)), ((hbw.trans (hbel.mono (by omega))).setCell (by simp) _)⟩
      rw [rem_end (by omega) he]
      exact (hown.setBelow (by simp) _).sl

theorem rem_any (v : Value) (L : List (Int × Int)) (lo hi : Int) (w : World) (hs : Sl .i64 w v L) (hn : L.length ≤ 100000) :
    Calls Ybim.prog 23 #[.agg #[v], .int .i64 lo, .int .i64 hi] w fun e w' => ∃ v', e = .returned (.agg #[v']) ∧ Sl .i64 w' v' (remove L lo hi) ∧ New w.heap.size v v' ∧ Below w.heap.size w w' := by
  rcases Int.lt_or_le lo hi with h0 | h0
  · exact rem_cut v L lo hi w hs h0 hn
  · exact rem_same v L lo hi w hs h0

end Go.Proofs.Ymbrbi
