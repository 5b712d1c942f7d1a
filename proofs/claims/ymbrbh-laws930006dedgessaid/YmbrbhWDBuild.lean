import Derived.Test.YmbrbhOwn2
import Derived.Test.YmbrbhLCut
import Derived.Test.YmbrbhLPush
import Derived.OpenShut
namespace Go.Proofs.Ymbrbh
open Go.RowKit

/-- What holds of the first k spans that dbuild lays, cur being the end of the last. -/
def Laid (st : Int) (k : Nat) (M : List (Int × Int)) (cur : Int) : Prop :=
  (∀ i, i < k → loA M i < hiA M i ∧ (0 < i → hiA M (i - 1) < loA M i) ∧ st < loA M i ∧ hiA M i ≤ cur) ∧ (0 < k → hiA M (k - 1) = cur) ∧ st ≤ cur

theorem laid_step {st : Int} {k : Nat} {M : List (Int × Int)} {cur lo hi : Int} (h : Laid st k M cur) (hk : k < M.length) (h1 : cur < lo) (h2 : lo < hi) : Laid st (k + 1) (M.set k (lo, hi)) hi := by
  obtain ⟨a1, a2, a3⟩ := h
  refine ⟨fun i hi' => ?_, fun _ => ?_, by omega⟩
  · rw [loA_set hk, hiA_set hk, hiA_set hk]
    by_cases e : i = k
    · subst e
      rw [if_pos rfl, if_pos rfl]
      refine ⟨h2, fun h0 => ?_, by simp; omega, Int.le_refl _⟩
      rw [if_neg (by omega), a2 h0]; exact h1
    · obtain ⟨b1, b2, b3, b4⟩ := a1 i (by omega)
      rw [if_neg e, if_neg e]
      refine ⟨b1, fun h0 => ?_, b3, by omega⟩
      rw [if_neg (by omega)]; exact b2 h0
  · rw [Nat.add_sub_cancel, hiA_set hk, if_pos rfl]

set_option maxHeartbeats 1000000 in
theorem dbuild_any (st : Int) (v : Value) (Z : List Int) (w : World) (a1 : -2147483648 ≤ st) (a2 : st ≤ 2147483647) (hs : Sl1 w v (Z.map (Value.int .u8))) (hr : ∀ n ∈ Z, (Lit.int .u8 n).wf = true) (hn : Z.length ≤ 1024) :
    Calls Ybhm.prog 29 #[.int .i32 st, v] w fun e w' => ∃ g cur, e = .returned (.slice (some ⟨g, 0, none⟩) Z.length Z.length) ∧ (∃ M, Own w' w.heap.size (some ⟨g, 0, none⟩) Z.length Z.length M ∧ Laid st Z.length M cur ∧ cur ≤ 2147483647 + 68 * 1024) ∧ Below w.heap.size w w' := by
  obtain ⟨ao, cap, rfl, hl, hm, hcell⟩ := hs
  simp only [List.length_map] at hl hcell
  go_enter Ybhm.func29, Ybhm.ntmps29
  simp only [List.length_map]
  go_wp2_with (at_make; refine wp_mkN _ w.heap.size rfl rfl _ _ rfl Z.length rfl rfl (by omega) ?_; intro w1 hown1 hb1)
  go_loopw [6, 7] (fun c i wr => ∃ (k : Nat) (M : List (Int × Int)) (cur : Int), k ≤ Z.length ∧ i = .int .i64 k ∧ c = .int .i64 cur ∧ Own wr w.heap.size (some ⟨w.heap.size, 0, none⟩) Z.length Z.length M ∧ Laid st k M cur ∧ -2147483648 ≤ cur ∧ cur ≤ 2147483647 + 68 * k ∧ Below w.heap.size w wr)
    (fun _ i _ => Z.length - (intOf i).toNat)
  case atStart => exact ⟨0, _, st, Nat.zero_le _, rfl, rfl, hown1, ⟨fun i hi => by omega, fun h => by omega, Int.le_refl _⟩, a1, by omega, hb1⟩
  case round =>
    obtain ⟨k, M, cur, hk, rfl, rfl, hown, hlaid, hc1, hc2, hbel⟩ := hrel
    by_cases hlt : k < Z.length
    · obtain ⟨b, off, rfl, hb, hc⟩ := hcell (by omega)
      obtain ⟨z, hz⟩ : ∃ z, Z[k] = z := ⟨_, rfl⟩
      have hq : wr.cell? ⟨b, off + k, none⟩ = some (.int .u8 z) := by
        rw [hbel.cell (p := ⟨b, off + k, none⟩) hb, hc k hlt]
        simp [List.getD, hlt, hz]
      obtain ⟨z1, z2⟩ := bounds_u8 (hr z (by rw [← hz]; exact List.getElem_mem hlt))
      have hM := hown.1
      have hst := laid_step hlaid (k := k) (lo := cur + 1 + z % 4) (hi := cur + 1 + z % 4 + 1 + z / 4) (by omega) (by omega) (by omega)
      have e0 := hown.lo (k := k) (by omega)
      have e1 := hown.hi (k := k) (by omega)
      have y0 := hown.froz (k * 2)
      have y1 := hown.froz (k * 2 + 1)
      have hown2 := hown.store (k := k) hlt (cur + 1 + z % 4) (cur + 1 + z % 4 + 1 + z / 4)
      have hb2 : Below w.heap.size w ((wr.setCell ⟨w.heap.size, k * 2, none⟩ (.int .i64 (cur + 1 + z % 4))).setCell ⟨w.heap.size, k * 2 + 1, none⟩ (.int .i64 (cur + 1 + z % 4 + 1 + z / 4))) := (hbel.setCell (by simp) _).setCell (by simp) _
      have hzb := hown.base_le
      clear hcell hc hown hM hlaid hz
      go_wp2
      go_roundw
      case rel => exact ⟨k + 1, _, _, by omega, by go_num, rfl, hown2, hst, by omega, by omega, hb2⟩
      case measure => simp [intOf]; omega
    · obtain rfl : k = Z.length := by omega
      clear hcell
      go_wp2
      go_ret
      exact ⟨_, cur, rfl, ⟨M, hown, hlaid, by omega⟩, hbel⟩

end Go.Proofs.Ymbrbh
