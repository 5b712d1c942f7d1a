import Derived.Test.YmbrbhWFrom
import Derived.Test.YmbrbhWBorder
import Derived.Test.YmbrbhWUni
import Derived.Test.YmbrbhWEq
import Derived.Deep.RegionWith
import Derived.Deep.DeepCutAuto
namespace Go.Proofs.Ymbrbh
open Go.RowKit

theorem fold_step {S Q R : List (Int × Int)} {k : Nat} (h : k < Q.length) (he : Hid (addAll S Q = addAll R (Q.drop k))) : Hid (addAll S Q = addAll (add R (loA Q k) (hiA Q k)) (Q.drop (k + 1))) := by
  show _ = _
  rw [he.out, drop_cons h, addAll]
theorem fold_end {S Q R : List (Int × Int)} {k : Nat} (h : ¬ k < Q.length) (he : Hid (addAll S Q = addAll R (Q.drop k))) : addAll S Q = R := by
  rw [he.out, drop_end h, addAll]

/-- The slice v, where it has elements, does not lie in block B. -/
def NeB (B : Nat) (v : Value) (L : List (Int × Int)) : Prop := 0 < L.length → v.ownBlock ≠ some B

theorem Sl.neB {w : World} {v : Value} {L : List (Int × Int)} {B : Nat} (h : Sl .i64 w v L) (hB : w.heap.size ≤ B) : NeB B v L := by
  intro h0
  obtain ⟨ao, cap, rfl, _, _, h4⟩ := h
  obtain ⟨b, off, rfl, h6, _⟩ := h4 h0
  simp [Value.ownBlock]
  omega
theorem NeB.new {w w2 : World} {v v' : Value} {R R' : List (Int × Int)} {B N : Nat} (h : NeB B v R) (hs : Sl .i64 w v R) (hs' : Sl .i64 w2 v' R') (hnew : New N v v') (hB : B < N) : NeB B v' R' := by
  rcases hnew with rfl | hn
  · intro h0
    obtain ⟨ao, cap, e1, _⟩ := hs
    obtain ⟨ao', cap', e2, _⟩ := hs'
    rw [e1] at e2
    simp only [Value.slice.injEq] at e2
    exact h (by omega)
  · intro _ e
    have := hn B e
    omega
theorem Sl.setNe {w : World} {v : Value} {L : List (Int × Int)} {a : Addr} (h : Sl .i64 w v L) (hf : NeB a.block v L) (u : Value) : Sl .i64 (w.setCell a u) v L := by
  obtain ⟨ao, cap, rfl, h2, h3, h4⟩ := h
  refine ⟨ao, cap, rfl, h2, h3, fun h0 => ?_⟩
  obtain ⟨b, off, rfl, h6, h7⟩ := h4 h0
  have hb : b ≠ a.block := fun e => hf h0 (by simp [Value.ownBlock, e])
  have e : ∀ o, (w.setCell a u).cell? ⟨b, o, none⟩ = w.cell? ⟨b, o, none⟩ := fun o => World.cell?_of_block (w := w) (Below.heap_setCell _ _ _ _ hb)
  exact ⟨b, off, rfl, by simpa [World.setCell] using h6, fun i hi => by rw [e, e]; exact h7 i hi⟩

/-- What a round leaves: block B (the variable r) holds the new set. -/
theorem fold_round {B N : Nat} {w0 wr w2 : World} {va a2 : Option Addr} {vn vc n2 c2 : Nat} {R T : List (Int × Int)} (hz : B < wr.heap.size) (hN : N ≤ B) (hb2 : Below wr.heap.size wr w2)
    (hcs : wr.cell? ⟨B, 0, none⟩ = some (.slice va vn vc)) (hfs : wr.frozen? ⟨B, 0, none⟩ = false)
    (hne : NeB B (.slice va vn vc) R) (hsl : Sl .i64 wr (.slice va vn vc) R) (hsl2 : Sl .i64 w2 (.slice a2 n2 c2) T) (hnew : New wr.heap.size (.slice va vn vc) (.slice a2 n2 c2)) (hbel : Below N w0 wr) :
    (w2.setCell ⟨B, 0, none⟩ (.slice a2 n2 c2)).cell? ⟨B, 0, none⟩ = some (.slice a2 n2 c2) ∧ Sl .i64 (w2.setCell ⟨B, 0, none⟩ (.slice a2 n2 c2)) (.slice a2 n2 c2) T ∧ NeB B (.slice a2 n2 c2) T ∧
      (w2.setCell ⟨B, 0, none⟩ (.slice a2 n2 c2)).frozen? ⟨B, 0, none⟩ = false ∧ B < (w2.setCell ⟨B, 0, none⟩ (.slice a2 n2 c2)).heap.size ∧ Below N w0 (w2.setCell ⟨B, 0, none⟩ (.slice a2 n2 c2)) := by
  have hc2 := (hb2.cell (p := ⟨B, 0, none⟩) hz).trans hcs
  have hf2 := (hb2.frozen (p := ⟨B, 0, none⟩) hz).trans hfs
  have hs2 := hb2.size
  have hF := hne.new hsl hsl2 hnew hz
  refine ⟨by simp [go_sem, hc2], hsl2.setNe hF _, hF, by simp [go_sem, hf2], by simp [World.setCell]; omega, ?_⟩
  exact (hbel.trans (hb2.mono (by omega))).setCell hN _

/-- A one-cell block that was laid just ahead of a call, behind the call. -/
theorem box_after {W w1 : World} {u : Value} {t : TypeId} (h : Below (W.alloc (.cells #[u] t)).heap.size (W.alloc (.cells #[u] t)) w1) : w1.cell? ⟨W.heap.size, 0, none⟩ = some u ∧ w1.frozen? ⟨W.heap.size, 0, none⟩ = false ∧ W.heap.size < w1.heap.size :=
  ⟨(h.cell (p := ⟨W.heap.size, 0, none⟩) (by simp)).trans (by simp [go_sem]), (h.frozen (p := ⟨W.heap.size, 0, none⟩) (by simp)).trans (by simp [go_sem]), by have := h.size; simp at this; omega⟩
theorem box_afterD {W w1 : World} {u : Value} {t : TypeId} (h : Below (W.alloc (.cells #[u] t)).drew.heap.size (W.alloc (.cells #[u] t)).drew w1) : w1.cell? ⟨W.heap.size, 0, none⟩ = some u ∧ w1.frozen? ⟨W.heap.size, 0, none⟩ = false ∧ W.heap.size < w1.heap.size :=
  box_after (Below.undrew h)
theorem box_keep {w1 w2 : World} {u : Value} {b : Nat} (hb : Below w1.heap.size w1 w2) (h : w1.cell? ⟨b, 0, none⟩ = some u ∧ w1.frozen? ⟨b, 0, none⟩ = false ∧ b < w1.heap.size) : (w2.cell? ⟨b, 0, none⟩ = some u ∧ w2.frozen? ⟨b, 0, none⟩ = false ∧ b < w2.heap.size) ∧ b < w1.heap.size :=
  ⟨⟨(hb.cell (p := ⟨b, 0, none⟩) h.2.2).trans h.1, (hb.frozen (p := ⟨b, 0, none⟩) h.2.2).trans h.2.1, Nat.lt_of_lt_of_le h.2.2 hb.size⟩, h.2.2⟩
theorem box_after' {W w1 : World} {u : Value} {t : TypeId} (h : Below (W.alloc (.cells #[u] t)).heap.size (W.alloc (.cells #[u] t)) w1) : (w1.cell? ⟨W.heap.size, 0, none⟩ = some u ∧ w1.frozen? ⟨W.heap.size, 0, none⟩ = false ∧ W.heap.size < w1.heap.size) ∧ W.heap.size < (W.alloc (.cells #[u] t)).heap.size :=
  ⟨box_after h, by simp⟩

/-- u points to a new block that holds a set which reads as L. -/
def USet (W : World) (L : List (Int × Int)) (u : Value) (wc : World) : Prop :=
  ∃ (bu : Nat) (ua : Option Addr) (un uc : Nat), u = .pointer (some ⟨bu, 0, none⟩) ∧ wc.cell? ⟨bu, 0, none⟩ = some (.slice ua un uc) ∧ Sl .i64 wc (.slice ua un uc) L ∧ bu < wc.heap.size ∧ Below W.heap.size W wc

theorem uset_new {W w5 : World} {a5 : Option Addr} {n5 c5 : Nat} {L : List (Int × Int)} {t : TypeId} (hb : Below W.heap.size W w5) (hsl : Sl .i64 w5 (.slice a5 n5 c5) L) :
    USet W L (.pointer (some ⟨w5.heap.size, 0, none⟩)) (w5.alloc (.cells #[.slice a5 n5 c5] t)) :=
  ⟨w5.heap.size, a5, n5, c5, rfl, by simp [go_sem], hsl.alloc _, by simp, hb.alloc hb.size _⟩
theorem uset_old {W w5 : World} {a5 : Option Addr} {n5 c5 bu X : Nat} {L : List (Int × Int)} {x : Value} (hb : Below W.heap.size W w5) (hsl : Sl .i64 w5 (.slice a5 n5 c5) L) (hu : w5.cell? ⟨bu, 0, none⟩ = some x) (hz : bu < w5.heap.size) (hX : bu < X)
    (hfr : Fr X (.slice a5 n5 c5)) (hW : W.heap.size ≤ bu) : USet W L (.pointer (some ⟨bu, 0, none⟩)) (w5.setCell ⟨bu, 0, none⟩ (.slice a5 n5 c5)) :=
  ⟨bu, a5, n5, c5, rfl, World.cell?_setCell_same _ _ _ hu, hsl.setCell hfr hX _, by simpa using hz, hb.setCell hW _⟩

set_option maxHeartbeats 4000000 in
theorem walk_BFold (va : Value) (A : List (Int × Int)) (vb : Value) (B : List (Int × Int)) (w : World) (ha : Sl .i64 w va A) (_ : RL .i64 A) (hb : Sl .i64 w vb B) (_ : RL .i64 B) :
    Calls Ybhm.prog 8 #[va, vb] w fun e w' => e = .returned (.bool true) ∧ Below w.heap.size w w' := by
  have ha' := ha
  have hb' := hb
  obtain ⟨aa, ca, rfl, hla, hma, hca⟩ := ha
  obtain ⟨ab, cb, rfl, hlb, hmb, hcb⟩ := hb
  clear hca hcb
  by_cases hbig : 512 < A.length
  · go_enter Ybhm.func8, Ybhm.ntmps8
    go_wp2
    go_ret
    exact ⟨rfl, Below.refl _ _⟩
  by_cases hbig2 : 512 < B.length
  · go_enter Ybhm.func8, Ybhm.ntmps8
    go_wp2
    go_ret
    exact ⟨rfl, Below.refl _ _⟩
  · have hlA := borderL_length A
    have hlB := borderL_length B
    have hfA := fromS_length (borderL A)
    have hfB := fromS_length (borderL B)
    have hlaw := hide (uni_addAll (Q := borderL B) (fromS_canon (borderL A)))
    have hb1 : (borderL A).length ≤ 512 := by omega
    have hb2 : (borderL B).length ≤ 512 := by omega
    clear hlA hlB
    go_enter Ybhm.func8, Ybhm.ntmps8
    go_wp2_with fail
    refine (border_any _ B _ hb' (by omega)).mono ?_
    rintro e w1 ⟨v1, rfl, hslQ, _, hbl1⟩
    obtain ⟨aq, nq1, cq, hvq⟩ := hslQ.shape
    subst hvq
    go_wp2_with fail
    refine (border_any _ A _ (ha'.below hbl1) (by omega)).mono ?_
    rintro e w2 ⟨v2, rfl, hsl2, _, hbl2⟩
    obtain ⟨a2, n2, c2, hv2⟩ := hsl2.shape
    subst hv2
    have hB2 := hbl1.trans (hbl2.mono hbl1.size)
    have hQ2 := hslQ.below hbl2
    go_wp2_with fail
    refine (from_any _ (borderL A) _ hsl2 (by omega)).mono ?_
    rintro e w3 ⟨v3, rfl, hsl3, _, hbl3⟩
    obtain ⟨a3, n3, c3, hv3⟩ := hsl3.shape
    subst hv3
    have hB3 := hB2.trans (hbl3.mono hB2.size)
    have hQ3 := hQ2.below hbl3
    go_wp2_with fail
    have hS := hsl3.alloc (.cells #[.slice a3 n3 c3] 27)
    have hQ := hQ3.alloc (.cells #[.slice a3 n3 c3] 27)
    have hX : (w3.alloc (.cells #[.slice a3 n3 c3] 27)).cell? ⟨w3.heap.size, 0, none⟩ = some (.slice a3 n3 c3) := by simp [go_sem]
    have hBW := hB3.alloc hB3.size (.cells #[.slice a3 n3 c3] 27)
    have hzW : w3.heap.size < (w3.alloc (.cells #[.slice a3 n3 c3] 27)).heap.size := by simp
    generalize w3.alloc (.cells #[.slice a3 n3 c3] 27) = W at *
    generalize fromS (borderL A) = S at *
    generalize borderL B = Q at *
    clear hbl1 hbl2 hbl3 hB2 hB3 hQ2 hQ3 hsl2 hsl3 hslQ
    go_cut [7] (fun u wc => USet W (uni S (fromS Q)) u wc)
    case first =>
      go_region_with (first | (go_at_call 21; refine (from_any _ Q _ (by first | exact hQ | exact hQ.alloc _) (by omega)).mono ?_; rintro e w4 ⟨v4, rfl, hsl4, _, hb4⟩; obtain ⟨a4, n4, c4, hv4⟩ := hsl4.shape; subst hv4; have hb4' : Below W.heap.size W w4 := (by first | exact Below.undrew hb4 | exact Below.ofAlloc (Below.undrew hb4)); have hx4 := (hb4'.cell (p := ⟨w3.heap.size, 0, none⟩) hzW).trans hX; have hS4 := hS.below hb4'; have hz34 := Nat.lt_of_lt_of_le hzW hb4'.size; try (have hU4 := box_afterD hb4)) | (go_at_call 22; refine (uni_any _ _ S (fromS Q) _ (by first | exact hS4 | exact hS4.alloc _) (by first | exact hsl4 | exact hsl4.alloc _) (by omega) (by omega)).mono ?_; rintro e w5 ⟨v5, rfl, hsl5, hfr5, hb5⟩; obtain ⟨a5, n5, c5, hv5⟩ := hsl5.shape; subst hv5; have hbW5 : Below W.heap.size W w5 := (by first | exact hb4'.trans (hb5.mono hb4'.size) | exact hb4'.trans ((Below.ofAlloc hb5).mono hb4'.size)); first | (have hU5 := box_keep hb5 hU4; obtain ⟨⟨hu5, hf5, hz5⟩, hX5⟩ := hU5) | (have hU5 := box_after' hb5; obtain ⟨⟨hu5, hf5, hz5⟩, hX5⟩ := hU5) | skip))
      all_goals
        go_wp2_with fail
        go_meet
        case rel => first | exact uset_new hbW5 hsl5 | exact uset_old hbW5 hsl5 hu5 hz5 hX5 hfr5 (Nat.le_refl _) | exact uset_old hbW5 hsl5 hu5 hz5 hX5 hfr5 hb4'.size
    case rest =>
      obtain ⟨bu, ua, un, uc, hu, hbu, hslU, hzu, hbc⟩ := hcut
      subst hu
      have hXc := (hbc.cell (p := ⟨w3.heap.size, 0, none⟩) hzW).trans hX
      have hSc := hS.below hbc
      have hQc := hQ.below hbc
      have hBc := hBW.trans (hbc.mono hBW.size)
      have hz3c : w3.heap.size < wc.heap.size := Nat.lt_of_lt_of_le hzW hbc.size
      have hSL : S.length ≤ 512 := by omega
      clear hX hS hQ hBW hzW hbc
      have hQ' := hQc
      obtain ⟨aq', cq', hvq, hlq, hmq, hcellQ⟩ := hQc
      simp only [Value.slice.injEq] at hvq
      obtain ⟨rfl, rfl, rfl⟩ := hvq
      go_wp2_with fail
      go_loopw [9] (fun i wr => ∃ (k : Nat) (R : List (Int × Int)) (va : Option Addr) (vn vc : Nat), k ≤ Q.length ∧ i = .int .i64 k ∧ R.length ≤ 512 + k ∧ wr.cell? ⟨wc.heap.size, 0, none⟩ = some (.slice va vn vc) ∧ Sl .i64 wr (.slice va vn vc) R ∧ NeB wc.heap.size (.slice va vn vc) R ∧
          wr.frozen? ⟨wc.heap.size, 0, none⟩ = false ∧ wc.heap.size < wr.heap.size ∧ Hid (addAll S Q = addAll R (Q.drop k)) ∧ Below wc.heap.size wc wr)
        (fun i _ => Q.length - (intOf i).toNat)
      case atStart => exact ⟨0, S, a3, n3, c3, Nat.zero_le _, rfl, by omega, by simp [go_sem], hSc.alloc _, hSc.neB (Nat.le_refl _), by simp [go_sem], by simp, rfl, (Below.refl _ _).alloc (Nat.le_refl _) _⟩
      case round =>
        obtain ⟨k, R, va, vn, vc, hk, rfl, hRk, hcs, hsl, hne, hfs, hz, he, hbel⟩ := hrel
        by_cases hlt : k < Q.length
        · obtain ⟨b, off, rfl, hb, hc⟩ := hcellQ (by omega)
          obtain ⟨hc0, hc1⟩ := hc.get hbel hb hlt
          have hst := fold_step hlt he
          have hln := add_length R (loA Q k) (hiA Q k)
          clear hcellQ hc he
          go_wp2
          go_region_with (go_at_call 17; refine (add_any _ R (loA Q k) (hiA Q k) _ (by exact hsl) (by omega)).mono ?_; rintro e w6 ⟨v6, rfl, hsl6, hnew6, hb6⟩; obtain ⟨a6, n6, c6, hv6⟩ := hsl6.shape; subst hv6; have hc6 := (hb6.cell (p := ⟨wc.heap.size, 0, none⟩) hz).trans hcs; have hf6 := (hb6.frozen (p := ⟨wc.heap.size, 0, none⟩) hz).trans hfs)
          all_goals
            have F := fold_round hz (Nat.le_refl _) (Below.undrew hb6) hcs hfs hne hsl hsl6 hnew6 hbel
            clear hb6 hcs hfs hne hsl hsl6 hnew6 hbel hc6 hf6
            go_wp2
            go_roundw
            case rel => exact ⟨k + 1, _, a6, n6, c6, by omega, by go_num, by omega, F.1, F.2.1, F.2.2.1, F.2.2.2.1, F.2.2.2.2.1, hst, F.2.2.2.2.2⟩
            case measure => simp [intOf]; omega
        · have hfin := fold_end hlt he
          have f1 : eqL (uni S (fromS Q)) R = true := by rw [hlaw.out, hfin]; simp [eqL]
          have hbx := (hbel.cell (p := ⟨bu, 0, none⟩) hzu).trans hbu
          clear hcellQ he hfin
          go_wp2_with fail
          refine (eq_bsame _ _ (uni S (fromS Q)) R _ (hslU.below hbel) hsl).mono ?_
          rintro e w8 ⟨rfl, hb8⟩
          rw [f1]
          have hB8 := hBc.trans (hbel.mono hBc.size)
          go_wp2_with fail
          go_ret
          exact ⟨rfl, hB8.trans (hb8.mono hB8.size)⟩

end Go.Proofs.Ymbrbh
