import Derived.Test.YmbrbiOwn2
namespace Go.Proofs.Ymbrbi
open Go.RowKit

set_option maxHeartbeats 400000 in
theorem spans_any (v : Value) (L : List (Int × Int)) (w : World) (hs : Sl .i64 w v L) (hn : L.length ≤ 100000) :
    Calls Ybim.prog 15 #[.agg #[v]] w fun e w' => ∃ g, e = .returned (.slice (some ⟨g, 0, none⟩) L.length L.length) ∧ Own w' w.heap.size (some ⟨g, 0, none⟩) L.length L.length L ∧ Below w.heap.size w w' := by
  have hs' := hs
  obtain ⟨ao, cap, rfl, hl, hm, hcell⟩ := hs
  clear hcell
  go_enter Ybim.func15, Ybim.ntmps15
  go_wp2_with (first | (at_make; refine wp_mkN _ (w.heap.size + 1) (by simp) rfl _ _ rfl L.length rfl rfl (by omega) ?_; intro w1 hown1 hb1; have hsl1 := (hs'.alloc (.cells #[.slice ao L.length cap] 24)).below (hb1.mono (by simp)); have hbox1 : w1.cell? ⟨w.heap.size, 0, none⟩ = some (.slice ao L.length cap) := (hb1.cell (p := ⟨w.heap.size, 0, none⟩) (by simp)).trans (by simp [go_sem])) | (refine wp_copy w1 rfl _ _ rfl (w.heap.size + 1) (w.heap.size + 1) L.length ao cap _ L rfl rfl hown1 hsl1 ?_; intro w2 hown2 hb2))
  go_ret
  exact ⟨_, rfl, hown2.mono (by omega), (((Below.refl _ _).alloc (Nat.le_refl _) _).trans (hb1.mono (by omega))).trans (hb2.mono (by omega))⟩

end Go.Proofs.Ymbrbi
