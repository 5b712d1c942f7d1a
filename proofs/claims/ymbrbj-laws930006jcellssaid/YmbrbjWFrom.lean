import Derived.Test.YmbrbjWAdd
import Derived.Deep.RegionWith
namespace Go.Proofs.Ymbrbj
open Go.RowKit

/-- What a round leaves of the call's own two variables (blocks B and B + 1): s holds the new set. -/
theorem from_round {B : Nat} {w wr w2 : World} {va a2 : Option Addr} {vn vc n2 c2 : Nat} {T : List (Int × Int)} (hz : B + 2 ≤ wr.heap.size) (hb2 : Below wr.heap.size wr w2)
    (hcs : wr.cell? ⟨B + 1, 0, none⟩ = some (.slice va vn vc)) (hfs : wr.frozen? ⟨B + 1, 0, none⟩ = false) (hcr : wr.cell? ⟨B, 0, none⟩ = some (.slice none 0 0)) (hfz : wr.frozen? ⟨B, 0, none⟩ = false)
    (hfr : Fr (B + 2) (.slice va vn vc)) (hsl2 : Sl .i64 w2 (.slice a2 n2 c2) T) (hnew : New wr.heap.size (.slice va vn vc) (.slice a2 n2 c2)) (hbel : Below B w wr) :
    (w2.setCell ⟨B + 1, 0, none⟩ (.slice a2 n2 c2)).cell? ⟨B + 1, 0, none⟩ = some (.slice a2 n2 c2) ∧ Sl .i64 (w2.setCell ⟨B + 1, 0, none⟩ (.slice a2 n2 c2)) (.slice a2 n2 c2) T ∧ Fr (B + 2) (.slice a2 n2 c2) ∧
      (w2.setCell ⟨B + 1, 0, none⟩ (.slice a2 n2 c2)).frozen? ⟨B + 1, 0, none⟩ = false ∧ (w2.setCell ⟨B + 1, 0, none⟩ (.slice a2 n2 c2)).cell? ⟨B, 0, none⟩ = some (.slice none 0 0) ∧
      (w2.setCell ⟨B + 1, 0, none⟩ (.slice a2 n2 c2)).frozen? ⟨B, 0, none⟩ = false ∧ B + 2 ≤ (w2.setCell ⟨B + 1, 0, none⟩ (.slice a2 n2 c2)).heap.size ∧ Below B w (w2.setCell ⟨B + 1, 0, none⟩ (.slice a2 n2 c2)) := by
  have hc2 := (hb2.cell (p := ⟨B + 1, 0, none⟩) (by simp; omega)).trans hcs
  have hf2 := (hb2.frozen (p := ⟨B + 1, 0, none⟩) (by simp; omega)).trans hfs
  have hc3 := (hb2.cell (p := ⟨B, 0, none⟩) (by simp; omega)).trans hcr
  have hf3 := (hb2.frozen (p := ⟨B, 0, none⟩) (by simp; omega)).trans hfz
  have hs2 := hb2.size
  have hF := hnew.fr hfr hz
  refine ⟨by simp [go_sem, hc2], hsl2.setCell hF (by simp) _, hF, by simp [go_sem, hf2], by simp [go_sem, hc3], by simp [go_sem, hf3], by simp [World.setCell]; omega, ?_⟩
  exact (hbel.trans (hb2.mono (by omega))).setCell (by simp) _

set_option maxHeartbeats 1000000 in
theorem from_any (v : Value) (L : List (Int × Int)) (w : World) (hs : Sl .i64 w v L) (hn : L.length ≤ 10000) :
    Calls Ybjm.prog 15 #[v] w fun e w' => ∃ v', e = .returned (.agg #[v']) ∧ Sl .i64 w' v' (fromS L) ∧ Fr w.heap.size v' ∧ Below w.heap.size w w' := by
  obtain ⟨ao, cap, rfl, hl, hm, hcell⟩ := hs
  have hinit := from_start (L := L)
  go_enter Ybjm.func15, Ybjm.ntmps15
  go_wp2
  go_loopw [4] (fun i wr => ∃ (k : Nat) (S : List (Int × Int)) (va : Option Addr) (vn vc : Nat), k ≤ L.length ∧ i = .int .i64 k ∧ S.length ≤ k ∧ wr.cell? ⟨w.heap.size + 1, 0, none⟩ = some (.slice va vn vc) ∧ Sl .i64 wr (.slice va vn vc) S ∧ Fr (w.heap.size + 2) (.slice va vn vc) ∧
      wr.frozen? ⟨w.heap.size + 1, 0, none⟩ = false ∧ wr.cell? ⟨w.heap.size, 0, none⟩ = some (.slice none 0 0) ∧ wr.frozen? ⟨w.heap.size, 0, none⟩ = false ∧ w.heap.size + 2 ≤ wr.heap.size ∧ Hid (fromS L = addAll S (L.drop k)) ∧ Below w.heap.size w wr)
    (fun i _ => L.length - (intOf i).toNat)
  case atStart => exact ⟨0, [], none, 0, 0, Nat.zero_le _, rfl, Nat.le_refl _, by simp [go_sem], Sl.nil _ _, Fr.nil _, by simp [go_sem], by simp [go_sem], by simp [go_sem], by simp, hinit, ((Below.refl _ _).alloc (Nat.le_refl _) _).alloc (by simp) _⟩
  case round =>
    obtain ⟨k, S, va, vn, vc, hk, rfl, hSk, hcs, hsl, hfr, hfs, hcr, hfz, hz, he, hbel⟩ := hrel
    clear hinit
    by_cases hlt : k < L.length
    · obtain ⟨b, off, rfl, hb, hc⟩ := hcell (by omega)
      obtain ⟨hc0, hc1⟩ := hc.get hbel hb hlt
      have hst := from_step hlt he
      have hln := add_length S (loA L k) (hiA L k)
      clear hcell hc he
      go_wp2
      go_region_with (go_at_call 18; refine (add_any _ S (loA L k) (hiA L k) _ (by exact hsl) (by omega)).mono ?_; rintro e w2 ⟨v2, rfl, hsl2, hnew2, hb2⟩; obtain ⟨a2, n2, c2, hv2⟩ := hsl2.shape; subst hv2; have hc2 := (hb2.cell (p := ⟨w.heap.size + 1, 0, none⟩) (by simp; omega)).trans hcs; have hf2 := (hb2.frozen (p := ⟨w.heap.size + 1, 0, none⟩) (by simp; omega)).trans hfs)
      all_goals
        have R := from_round hz (Below.undrew hb2) hcs hfs hcr hfz hfr hsl2 hnew2 hbel
        clear hb2 hcs hfs hcr hfz hfr hsl2 hnew2 hbel hc2 hf2
        go_wp2
        go_roundw
        case rel => exact ⟨k + 1, _, a2, n2, c2, by omega, by go_num, by omega, R.1, R.2.1, R.2.2.1, R.2.2.2.1, R.2.2.2.2.1, R.2.2.2.2.2.1, R.2.2.2.2.2.2.1, hst, R.2.2.2.2.2.2.2⟩
        case measure => simp [intOf]; omega
    · have hfin := hide (from_end (by omega) he)
      go_wp2
      refine bodyPost_ret (v := .agg #[.slice va vn vc]) (by simp [results, Ybjm.results15, go_sem, hcr]) rfl ⟨_, rfl, ?_, fun g hg => Nat.le_trans (by omega) (hfr g hg), hbel.setCell (by simp) _⟩
      rw [hfin.out]
      exact hsl.setCell hfr (by simp) _

end Go.Proofs.Ymbrbj
