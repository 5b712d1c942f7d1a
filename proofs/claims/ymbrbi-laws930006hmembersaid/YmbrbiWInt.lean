import Derived.Test.YmbrbiOwn4
import Derived.Test.YmbrbiPInt
import Derived.RegionTactic
import Derived.BigRegion
namespace Go.Proofs.Ymbrbi
open Go.RowKit

set_option maxHeartbeats 4000000 in
theorem int_any (va vb : Value) (A B : List (Int × Int)) (w : World) (ha : Sl .i64 w va A) (hb : Sl .i64 w vb B) (hnA : A.length ≤ 100000) (hnB : B.length ≤ 100000) :
    Calls Ybim.prog 28 #[.agg #[va], .agg #[vb]] w fun e w' => ∃ v', e = .returned (.agg #[v']) ∧ Sl .i64 w' v' (inter A B) ∧ Fr w.heap.size v' ∧ Below w.heap.size w w' := by
  obtain ⟨aa, ca, rfl, hla, hma, hca⟩ := ha
  obtain ⟨ab, cb, rfl, hlb, hmb, hcb⟩ := hb
  have hinit := int_start (A := A) (B := B)
  go_enter Ybim.func28, Ybim.ntmps28
  go_wp2_with (at_make; refine wp_mk0 _ (w.heap.size + 3) (by simp) rfl _ _ rfl _ (A.length + B.length) rfl rfl (by omega) (by omega) ?_; intro w1 hown1 hb1)
  have hbw : Below w.heap.size w w1 := ((((Below.refl _ _).alloc (Nat.le_refl _) _).alloc (by simp) _).alloc (by simp; omega) _).trans (hb1.mono (by omega))
  have hz1 : w.heap.size + 3 ≤ w1.heap.size := by have := hb1.size; simp at this; omega
  have hboxA1 : w1.cell? ⟨w.heap.size, 0, none⟩ = some (.slice aa A.length ca) := by rw [hb1.cell (p := ⟨w.heap.size, 0, none⟩) (by simp)]; simp [go_sem]
  have hboxB1 : w1.cell? ⟨w.heap.size + 1, 0, none⟩ = some (.slice ab B.length cb) := by rw [hb1.cell (p := ⟨w.heap.size + 1, 0, none⟩) (by simp)]; simp [go_sem]
  have hres1 : w1.cell? ⟨w.heap.size + 1 + 1, 0, none⟩ = some (.slice none 0 0) := by rw [hb1.cell (p := ⟨w.heap.size + 1 + 1, 0, none⟩) (by simp)]; simp [go_sem]
  have hfr1 : w1.frozen? ⟨w.heap.size + 1 + 1, 0, none⟩ = false := by rw [hb1.frozen (p := ⟨w.heap.size + 1 + 1, 0, none⟩) (by simp)]; simp [go_sem]
  clear hb1
  go_loopw [5, 6, 7] (fun v i j wr => ∃ (p q n : Nat) (M : List (Int × Int)) (ao' : Option Addr) (cap' : Nat), p ≤ A.length ∧ q ≤ B.length ∧ n ≤ p + q ∧ i = .int .i64 p ∧ j = .int .i64 q ∧ v = .slice ao' n cap' ∧ Own wr (w.heap.size + 3) ao' cap' n M ∧ Hid (inter A B = M ++ inter (A.drop p) (B.drop q)) ∧ Below (w.heap.size + 3) w1 wr)
    (fun _ i j _ => (A.length - (intOf i).toNat) + (B.length - (intOf j).toNat))
  case atStart => exact ⟨0, 0, 0, [], _, _, Nat.zero_le _, Nat.zero_le _, Nat.le_refl _, rfl, rfl, rfl, hown1, hinit, Below.refl _ _⟩
  case round =>
    obtain ⟨p, q, n, M, ao', cap', hp, hq, hnk, rfl, rfl, rfl, hown, he, hbel⟩ := hrel
    have hboxA := (hbel.cell (p := ⟨w.heap.size, 0, none⟩) (by simp)).trans hboxA1
    have hboxB := (hbel.cell (p := ⟨w.heap.size + 1, 0, none⟩) (by simp)).trans hboxB1
    have hz := hbel.size
    clear hown1 hinit
    by_cases hgo : p < A.length ∧ q < B.length
    · obtain ⟨hlt, hlt'⟩ := hgo
      obtain ⟨b, off, rfl, hb, hc⟩ := hca (by omega)
      obtain ⟨hc0, hc1⟩ := hc.get (hbw.trans (hbel.mono (by omega))) hb hlt
      obtain ⟨b', off', rfl, hb', hc'⟩ := hcb (by omega)
      obtain ⟨hc0', hc1'⟩ := hc'.get (hbw.trans (hbel.mono (by omega))) hb' hlt'
      have z0 : w.heap.size < wr.heap.size := by omega
      have z1 : w.heap.size + 1 < wr.heap.size := by omega
      have z2 : b < wr.heap.size := by omega
      have z3 : b' < wr.heap.size := by omega
      clear hc hca hc' hcb
      rcases Int.lt_or_le (loA A p) (loA B q) with c1 | c1
      · rcases Int.lt_or_le (hiA B q) (hiA A p) with c2 | c2
        · rcases Int.lt_or_le (loA B q) (hiA B q) with c3 | c3
          · have hst := int_stepB hlt hlt' he c2
            rw [show mxI (loA A p) (loA B q) = loA B q from if_pos c1, show mnI (hiA A p) (hiA B q) = hiA B q from if_pos c2, show one (loA B q) (hiA B q) = [(loA B q, hiA B q)] from if_pos c3] at hst
            clear he
            go_wp2_with fail
            go_region
            all_goals
              go_wp2_with (at_builtin; refine wp_app3 _ (loA B q) (hiA B q) rfl _ _ rfl (w.heap.size + 3) ao' cap' n M rfl (((((hown.alloc _).alloc _).alloc _).alloc _).drew) _ rfl (by simp [go_sem]) (by simp [go_sem]) (by omega) (by simp [go_sem]; omega) ?_; intro ao2 cap2 w2 hown2 hb2 hk2; have hq0 := hk2.cell (b := wr.heap.size) (o := 1) (by simp [go_sem] <;> omega) (hown.ne (Nat.le_refl _)); have hq1 := hk2.cell (b := wr.heap.size + 1) (o := 1) (by simp [go_sem] <;> omega) (hown.ne (by omega)); simp [go_sem] at hq0 hq1)
              have hbx2 := hbel.trans (Below.trans (Below.drew ((((Below.refl (w.heap.size + 3) wr).alloc (by omega) _).alloc (by simp; omega) _).alloc (by simp; omega) _ |>.alloc (by simp; omega) _)) hb2)
              go_roundw
              case rel => exact ⟨p, q + 1, n + 1, _, ao2, cap2, by omega, by omega, by omega, by go_num, by go_num, rfl, hown2, hst, hbx2⟩
              case measure => simp [intOf]; omega
          · have hst := int_stepB hlt hlt' he c2
            rw [show mxI (loA A p) (loA B q) = loA B q from if_pos c1, show mnI (hiA A p) (hiA B q) = hiA B q from if_pos c2, show one (loA B q) (hiA B q) = [] from if_neg (by omega)] at hst
            clear he
            go_wp2_with fail
            go_region
            all_goals
              go_wp2_with fail
              go_roundw
              case rel => exact ⟨p, q + 1, n, _, ao', cap', by omega, by omega, by omega, by go_num, by go_num, rfl, (((hown.alloc _).alloc _).alloc _).drew, by simpa using hst, hbel.trans (Below.drew ((((Below.refl (w.heap.size + 3) wr).alloc (by omega) _).alloc (by simp; omega) _).alloc (by simp; omega) _))⟩
              case measure => simp [intOf]; omega
        · rcases Int.lt_or_le (loA B q) (hiA A p) with c3 | c3
          · have hst := int_stepA hlt hlt' he c2
            rw [show mxI (loA A p) (loA B q) = loA B q from if_pos c1, show mnI (hiA A p) (hiA B q) = hiA A p from if_neg (by omega), show one (loA B q) (hiA A p) = [(loA B q, hiA A p)] from if_pos c3] at hst
            clear he
            go_wp2_with fail
            go_region
            all_goals
              go_wp2_with (at_builtin; refine wp_app3 _ (loA B q) (hiA A p) rfl _ _ rfl (w.heap.size + 3) ao' cap' n M rfl (((((hown.alloc _).alloc _).alloc _).alloc _).drew) _ rfl (by simp [go_sem]) (by simp [go_sem]) (by omega) (by simp [go_sem]; omega) ?_; intro ao2 cap2 w2 hown2 hb2 hk2; have hq0 := hk2.cell (b := wr.heap.size) (o := 1) (by simp [go_sem] <;> omega) (hown.ne (Nat.le_refl _)); have hq1 := hk2.cell (b := wr.heap.size + 1) (o := 1) (by simp [go_sem] <;> omega) (hown.ne (by omega)); simp [go_sem] at hq0 hq1)
              have hbx2 := hbel.trans (Below.trans (Below.drew ((((Below.refl (w.heap.size + 3) wr).alloc (by omega) _).alloc (by simp; omega) _).alloc (by simp; omega) _ |>.alloc (by simp; omega) _)) hb2)
              go_roundw
              case rel => exact ⟨p + 1, q, n + 1, _, ao2, cap2, by omega, by omega, by omega, by go_num, by go_num, rfl, hown2, hst, hbx2⟩
              case measure => simp [intOf]; omega
          · have hst := int_stepA hlt hlt' he c2
            rw [show mxI (loA A p) (loA B q) = loA B q from if_pos c1, show mnI (hiA A p) (hiA B q) = hiA A p from if_neg (by omega), show one (loA B q) (hiA A p) = [] from if_neg (by omega)] at hst
            clear he
            go_wp2_with fail
            go_region
            all_goals
              go_wp2_with fail
              go_roundw
              case rel => exact ⟨p + 1, q, n, _, ao', cap', by omega, by omega, by omega, by go_num, by go_num, rfl, (((hown.alloc _).alloc _).alloc _).drew, by simpa using hst, hbel.trans (Below.drew ((((Below.refl (w.heap.size + 3) wr).alloc (by omega) _).alloc (by simp; omega) _).alloc (by simp; omega) _))⟩
              case measure => simp [intOf]; omega
      · rcases Int.lt_or_le (hiA B q) (hiA A p) with c2 | c2
        · rcases Int.lt_or_le (loA A p) (hiA B q) with c3 | c3
          · have hst := int_stepB hlt hlt' he c2
            rw [show mxI (loA A p) (loA B q) = loA A p from if_neg (by omega), show mnI (hiA A p) (hiA B q) = hiA B q from if_pos c2, show one (loA A p) (hiA B q) = [(loA A p, hiA B q)] from if_pos c3] at hst
            clear he
            go_wp2_with fail
            go_region
            all_goals
              go_wp2_with (at_builtin; refine wp_app3 _ (loA A p) (hiA B q) rfl _ _ rfl (w.heap.size + 3) ao' cap' n M rfl (((((hown.alloc _).alloc _).alloc _).alloc _).drew) _ rfl (by simp [go_sem]) (by simp [go_sem]) (by omega) (by simp [go_sem]; omega) ?_; intro ao2 cap2 w2 hown2 hb2 hk2; have hq0 := hk2.cell (b := wr.heap.size) (o := 1) (by simp [go_sem] <;> omega) (hown.ne (Nat.le_refl _)); have hq1 := hk2.cell (b := wr.heap.size + 1) (o := 1) (by simp [go_sem] <;> omega) (hown.ne (by omega)); simp [go_sem] at hq0 hq1)
              have hbx2 := hbel.trans (Below.trans (Below.drew ((((Below.refl (w.heap.size + 3) wr).alloc (by omega) _).alloc (by simp; omega) _).alloc (by simp; omega) _ |>.alloc (by simp; omega) _)) hb2)
              go_roundw
              case rel => exact ⟨p, q + 1, n + 1, _, ao2, cap2, by omega, by omega, by omega, by go_num, by go_num, rfl, hown2, hst, hbx2⟩
              case measure => simp [intOf]; omega
          · have hst := int_stepB hlt hlt' he c2
            rw [show mxI (loA A p) (loA B q) = loA A p from if_neg (by omega), show mnI (hiA A p) (hiA B q) = hiA B q from if_pos c2, show one (loA A p) (hiA B q) = [] from if_neg (by omega)] at hst
            clear he
            go_wp2_with fail
            go_region
            all_goals
              go_wp2_with fail
              go_roundw
              case rel => exact ⟨p, q + 1, n, _, ao', cap', by omega, by omega, by omega, by go_num, by go_num, rfl, (((hown.alloc _).alloc _).alloc _).drew, by simpa using hst, hbel.trans (Below.drew ((((Below.refl (w.heap.size + 3) wr).alloc (by omega) _).alloc (by simp; omega) _).alloc (by simp; omega) _))⟩
              case measure => simp [intOf]; omega
        · rcases Int.lt_or_le (loA A p) (hiA A p) with c3 | c3
          · have hst := int_stepA hlt hlt' he c2
            rw [show mxI (loA A p) (loA B q) = loA A p from if_neg (by omega), show mnI (hiA A p) (hiA B q) = hiA A p from if_neg (by omega), show one (loA A p) (hiA A p) = [(loA A p, hiA A p)] from if_pos c3] at hst
            clear he
            go_wp2_with fail
            go_region
            all_goals
              go_wp2_with (at_builtin; refine wp_app3 _ (loA A p) (hiA A p) rfl _ _ rfl (w.heap.size + 3) ao' cap' n M rfl (((((hown.alloc _).alloc _).alloc _).alloc _).drew) _ rfl (by simp [go_sem]) (by simp [go_sem]) (by omega) (by simp [go_sem]; omega) ?_; intro ao2 cap2 w2 hown2 hb2 hk2; have hq0 := hk2.cell (b := wr.heap.size) (o := 1) (by simp [go_sem] <;> omega) (hown.ne (Nat.le_refl _)); have hq1 := hk2.cell (b := wr.heap.size + 1) (o := 1) (by simp [go_sem] <;> omega) (hown.ne (by omega)); simp [go_sem] at hq0 hq1)
              have hbx2 := hbel.trans (Below.trans (Below.drew ((((Below.refl (w.heap.size + 3) wr).alloc (by omega) _).alloc (by simp; omega) _).alloc (by simp; omega) _ |>.alloc (by simp; omega) _)) hb2)
              go_roundw
              case rel => exact ⟨p + 1, q, n + 1, _, ao2, cap2, by omega, by omega, by omega, by go_num, by go_num, rfl, hown2, hst, hbx2⟩
              case measure => simp [intOf]; omega
          · have hst := int_stepA hlt hlt' he c2
            rw [show mxI (loA A p) (loA B q) = loA A p from if_neg (by omega), show mnI (hiA A p) (hiA B q) = hiA A p from if_neg (by omega), show one (loA A p) (hiA A p) = [] from if_neg (by omega)] at hst
            clear he
            go_wp2_with fail
            go_region
            all_goals
              go_wp2_with fail
              go_roundw
              case rel => exact ⟨p + 1, q, n, _, ao', cap', by omega, by omega, by omega, by go_num, by go_num, rfl, (((hown.alloc _).alloc _).alloc _).drew, by simpa using hst, hbel.trans (Below.drew ((((Below.refl (w.heap.size + 3) wr).alloc (by omega) _).alloc (by simp; omega) _).alloc (by simp; omega) _))⟩
              case measure => simp [intOf]; omega
    · have hres := (hbel.cell (p := ⟨w.heap.size + 1 + 1, 0, none⟩) (by simp)).trans hres1
      have hfr := (hbel.frozen (p := ⟨w.heap.size + 1 + 1, 0, none⟩) (by simp)).trans hfr1
      have hfin := hide (int_end hgo he)
      have hd : decide ((p : Int) < (A.length : Int)) = true → decide ((q : Int) < (B.length : Int)) = false := by simp; omega
      clear hca hcb hgo
      by_cases hlt : p < A.length
      · have hlt' : ¬ q < B.length := by have := hd (by simp; omega); simp at this; omega
        clear hd
        go_wp2
        refine bodyPost_ret (v := .agg #[.slice ao' n cap']) (by simp [results, Ybim.results28, go_sem, hres]) rfl ⟨_, rfl, ?_, (fun g hg => Nat.le_trans (by omega) (hown.fr g hg)), ((hbw.trans (hbel.mono (by omega))).setCell (by simp; omega) _)⟩
        rw [hfin.out]
        exact (hown.setBelow (by simp) _).sl
      · clear hd
        go_wp2
        refine bodyPost_ret (v := .agg #[.slice ao' n cap']) (by simp [results, Ybim.results28, go_sem, hres]) rfl ⟨_, rfl, ?_, (fun g hg => Nat.le_trans (by omega) (hown.fr g hg)), ((hbw.trans (hbel.mono (by omega))).setCell (by simp; omega) _)⟩
        rw [hfin.out]
        exact (hown.setBelow (by simp) _).sl

end Go.Proofs.Ymbrbi
