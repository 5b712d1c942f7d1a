import Derived.Test.YmbrbiWFrom
import Derived.Test.YmbrbiWEq
import Derived.Test.YmbrbiWSpans
import Derived.Test.YmbrbiLLaid
import Derived.Test.YmbrbiOwn4
import Derived.OpenShut
namespace Go.Proofs.Ymbrbi
open Go.RowKit

theorem RL.u16 {L : List (Int × Int)} {k : Nat} (h : RL .u16 L) (hk : k < L.length) : (0 ≤ loA L k ∧ loA L k ≤ 65535) ∧ (0 ≤ hiA L k ∧ hiA L k ≤ 65535) :=
  ⟨bounds_u16 (h _ (pair_mem hk)).1, bounds_u16 (h _ (pair_mem hk)).2⟩
theorem half_range {x : Int} (h1 : -9223372036854775808 ≤ x) (h2 : x ≤ 9223372036854775807) : -4611686018427387904 ≤ x.tdiv 2 ∧ x.tdiv 2 ≤ 4611686018427387904 := by
  rcases Int.le_total 0 x with h | h
  · rw [Int.tdiv_eq_ediv_of_nonneg h]; omega
  · have e : x.tdiv 2 = -((-x).tdiv 2) := by rw [Int.neg_tdiv, Int.neg_neg]
    rw [e, Int.tdiv_eq_ediv_of_nonneg (by omega)]; omega

set_option maxHeartbeats 2000000 in
theorem walk_ERoundTrip (st : Int) (v : Value) (L : List (Int × Int)) (w : World) (w0 : (Lit.int .i64 st).wf = true) (hs : Sl .u16 w v L) (hr : RL .u16 L) :
    Calls Ybim.prog 4 #[.int .i64 st, v] w fun e w' => e = .returned (.bool true) ∧ Below w.heap.size w w' := by
  obtain ⟨x0, x1⟩ := bounds_i64 w0
  obtain ⟨h0, h1⟩ := half_range x0 x1
  clear w0
  obtain ⟨ao, cap, rfl, hl, hm, hcell⟩ := hs
  by_cases hbig : 1024 < L.length
  · clear hcell
    go_enter Ybim.func4, Ybim.ntmps4
    go_wp2
    go_ret
    exact ⟨rfl, Below.refl _ _⟩
  · have hwr : wrap64 (st.tdiv 2) = st.tdiv 2 := by unfold wrap64; omega
    go_enter Ybim.func4, Ybim.ntmps4
    go_wp2_with (at_make; refine wp_mkN _ w.heap.size rfl rfl _ _ rfl L.length rfl rfl (by omega) ?_; intro w1 hown1 hb1)
    go_loopw [5, 7] (fun c i wr => ∃ (k : Nat) (M : List (Int × Int)) (cur : Int), k ≤ L.length ∧ i = .int .i64 k ∧ c = .int .i64 cur ∧ Own wr w.heap.size (some ⟨w.heap.size, 0, none⟩) L.length L.length M ∧ LaidG k M cur ∧ -4611686018427387904 ≤ cur ∧ cur ≤ 4611686018427387904 + 131072 * k ∧ Below w.heap.size w wr)
      (fun _ i _ => L.length - (intOf i).toNat)
    case atStart => exact ⟨0, _, _, Nat.zero_le _, rfl, rfl, hown1, ⟨fun i hi => by omega, fun h => by omega⟩, by omega, by omega, hb1⟩
    case round =>
      obtain ⟨k, M, cur, hk, rfl, rfl, hown, hlaid, hc1, hc2, hbel⟩ := hrel
      clear hown1 hb1 hwr h0 h1
      by_cases hlt : k < L.length
      · obtain ⟨b, off, rfl, hb, hc⟩ := hcell (by omega)
        obtain ⟨hq0, hq1⟩ := hc.get hbel hb hlt
        obtain ⟨⟨g1, g2⟩, g3, g4⟩ := hr.u16 hlt
        have hM := hown.1
        have hst := laidG_step hlaid (k := k) (lo := cur + 1 + loA L k) (hi := cur + 1 + loA L k + 1 + hiA L k) (by omega) (by omega) (by omega)
        have e0 := hown.lo (k := k) (by omega)
        have e1 := hown.hi (k := k) (by omega)
        have y0 := hown.froz (k * 2)
        have y1 := hown.froz (k * 2 + 1)
        have hown2 := hown.store (k := k) hlt (cur + 1 + loA L k) (cur + 1 + loA L k + 1 + hiA L k)
        have hb2 : Below w.heap.size w ((wr.setCell ⟨w.heap.size, k * 2, none⟩ (.int .i64 (cur + 1 + loA L k))).setCell ⟨w.heap.size, k * 2 + 1, none⟩ (.int .i64 (cur + 1 + loA L k + 1 + hiA L k))) := (hbel.setCell (by simp) _).setCell (by simp) _
        have hzb := hown.base_le
        clear hcell hc hown hM hlaid
        go_wp2
        go_roundw
        case rel => exact ⟨k + 1, _, _, by omega, by go_num, rfl, hown2, hst, by omega, by omega, hb2⟩
        case measure => simp [intOf]; omega
      · obtain rfl : k = L.length := by omega
        have hM := hown.1
        rw [← hM] at hlaid
        have hcan := laidG_canon hlaid
        have hself := hide (fromS_self hcan)
        have heq : Hid (eqL M M = true) := by show _ = _; unfold eqL; simp
        have hslM := hown.sl
        clear hcell hlaid hcan
        go_wp2_with fail
        refine (from_any _ M _ hslM (by omega)).mono ?_
        rintro e w2 ⟨v2, rfl, hsl2, _, hb2⟩
        rw [hself.out] at hsl2
        have hM2 := hslM.below hb2
        have hB2 := hbel.trans (hb2.mono hbel.size)
        clear hb2 hslM hown
        go_wp2_with fail
        refine (spans_any _ M _ hsl2 (by omega)).mono ?_
        rintro e w3 ⟨g, rfl, hown3, hb3⟩
        rw [hM] at hown3 ⊢
        clear hM
        have hM3 := hM2.below hb3
        have hB3 := hB2.trans (hb3.mono hB2.size)
        have hsl3 := hown3.sl
        go_wp2_with fail
        refine (eq_eeq _ _ M M _ hsl3 hM3).mono ?_
        rintro e w4 ⟨rfl, hb4⟩
        rw [heq.out]
        go_wp2_with fail
        go_ret
        exact ⟨rfl, hB3.trans (hb4.mono hB3.size)⟩

end Go.Proofs.Ymbrbi
