import Derived.Test.YmbrbhWPush
import Derived.Test.YmbrbhThyUni
namespace Go.Proofs.Ymbrbh
open Go.RowKit

set_option maxHeartbeats 4000000 in
theorem uni_any (va vb : Value) (A B : List (Int × Int)) (w : World) (ha : Sl .i64 w va A) (hb : Sl .i64 w vb B) (hnA : A.length ≤ 100000) (hnB : B.length ≤ 100000) :
    Calls Ybhm.prog 22 #[.agg #[va], .agg #[vb]] w fun e w' => ∃ v', e = .returned (.agg #[v']) ∧ Sl .i64 w' v' (uni A B) ∧ Fr w.heap.size v' ∧ Below w.heap.size w w' := by
  obtain ⟨aa, ca, rfl, hla, hma, hca⟩ := ha
  obtain ⟨ab, cb, rfl, hlb, hmb, hcb⟩ := hb
  go_enter Ybhm.func22, Ybhm.ntmps22
  go_wp2_with (at_make; refine wp_mk0 _ (w.heap.size + 3) (by simp) rfl _ _ rfl _ (A.length + B.length) rfl rfl (by omega) (by omega) ?_; intro w1 hown1 hb1)
  have hbw : Below w.heap.size w w1 := ((((Below.refl _ _).alloc (Nat.le_refl _) _).alloc (by simp) _).alloc (by simp; omega) _).trans (hb1.mono (by omega))
  have hz1 : w.heap.size + 3 ≤ w1.heap.size := by have := hb1.size; simp at this; omega
  have hboxA1 : w1.cell? ⟨w.heap.size, 0, none⟩ = some (.slice aa A.length ca) := by rw [hb1.cell (p := ⟨w.heap.size, 0, none⟩) (by simp)]; simp [go_sem]
  have hboxB1 : w1.cell? ⟨w.heap.size + 1, 0, none⟩ = some (.slice ab B.length cb) := by rw [hb1.cell (p := ⟨w.heap.size + 1, 0, none⟩) (by simp)]; simp [go_sem]
  have hres1 : w1.cell? ⟨w.heap.size + 1 + 1, 0, none⟩ = some (.slice none 0 0) := by rw [hb1.cell (p := ⟨w.heap.size + 1 + 1, 0, none⟩) (by simp)]; simp [go_sem]
  have hfr1 : w1.frozen? ⟨w.heap.size + 1 + 1, 0, none⟩ = false := by rw [hb1.frozen (p := ⟨w.heap.size + 1 + 1, 0, none⟩) (by simp)]; simp [go_sem]
  clear hb1
  go_loopw [5, 6, 7] (fun v i j wr => ∃ (p q n : Nat) (M : List (Int × Int)) (ao' : Option Addr) (cap' : Nat), p ≤ A.length ∧ q ≤ B.length ∧ n ≤ p + q ∧ i = .int .i64 p ∧ j = .int .i64 q ∧ v = .slice ao' n cap' ∧ Own wr (w.heap.size + 3) ao' cap' n M ∧ Hid (uni A B = uniF M (A.drop p) (B.drop q)) ∧ Below (w.heap.size + 3) w1 wr)
    (fun _ i j _ => (A.length - (intOf i).toNat) + (B.length - (intOf j).toNat))
  case atStart => exact ⟨0, 0, 0, [], _, _, Nat.zero_le _, Nat.zero_le _, Nat.le_refl _, rfl, rfl, rfl, hown1, rfl, Below.refl _ _⟩
  case round =>
    obtain ⟨p, q, n, M, ao', cap', hp, hq, hnk, rfl, rfl, rfl, hown, he, hbel⟩ := hrel
    have hboxA := (hbel.cell (p := ⟨w.heap.size, 0, none⟩) (by simp)).trans hboxA1
    have hboxB := (hbel.cell (p := ⟨w.heap.size + 1, 0, none⟩) (by simp)).trans hboxB1
    have hz := hbel.size
    clear hown1
    by_cases hi : p < A.length
    · obtain ⟨b, off, rfl, hb, hc⟩ := hca (by omega)
      obtain ⟨hc0, hc1⟩ := hc.get (hbw.trans (hbel.mono (by omega))) hb hi
      by_cases hj : q < B.length
      · obtain ⟨b', off', rfl, hb', hc'⟩ := hcb (by omega)
        obtain ⟨hc0', hc1'⟩ := hc'.get (hbw.trans (hbel.mono (by omega))) hb' hj
        have t1 : ((q : Int) == (B.length : Int)) = false := by simp; omega
        rcases Int.lt_or_le (loA B q) (loA A p) with c | c
        · have hst := uni_BA hi hj c he
          clear hca hcb hc hc' he
          go_wp2_with fail
          go_quiet (fail)
          go_wp2_with fail
          refine (push_any ao' cap' n (w.heap.size + 3) M _ _ _ (hown.drewN _) (by omega) (by show _ ≤ wr.heap.size; omega)).mono ?_
          rintro e w2 ⟨ao2, cap2, n2, rfl, hown2, hb2⟩
          have hn2 : n2 ≤ n + 1 := by have := hown2.1; have := pushL_length M (loA B q, hiA B q); have := hown.1; omega
          have hbx := hbel.trans (Below.undrewN hb2)
          go_wp2_with fail
          go_roundw
          case rel => exact ⟨p, q + 1, n2, _, ao2, cap2, by omega, by omega, by omega, by go_num, by go_num, rfl, hown2, hst, hbx⟩
          case measure => simp [intOf]; omega
        · have hst := uni_AB hi hj c he
          clear hca hcb hc hc' he
          go_wp2_with fail
          go_quiet (fail)
          go_wp2_with fail
          refine (push_any ao' cap' n (w.heap.size + 3) M _ _ _ (hown.drewN _) (by omega) (by show _ ≤ wr.heap.size; omega)).mono ?_
          rintro e w2 ⟨ao2, cap2, n2, rfl, hown2, hb2⟩
          have hn2 : n2 ≤ n + 1 := by have := hown2.1; have := pushL_length M (loA A p, hiA A p); have := hown.1; omega
          have hbx := hbel.trans (Below.undrewN hb2)
          go_wp2_with fail
          go_roundw
          case rel => exact ⟨p + 1, q, n2, _, ao2, cap2, by omega, by omega, by omega, by go_num, by go_num, rfl, hown2, hst, hbx⟩
          case measure => simp [intOf]; omega
      · have t1 : ((q : Int) == (B.length : Int)) = true := by simp; omega
        have hst := uni_A hi hj he
        clear hca hcb hc he
        go_wp2_with fail
        go_quiet (fail)
        go_wp2_with fail
        refine (push_any ao' cap' n (w.heap.size + 3) M _ _ _ (hown.drewN _) (by omega) (by show _ ≤ wr.heap.size; omega)).mono ?_
        rintro e w2 ⟨ao2, cap2, n2, rfl, hown2, hb2⟩
        have hn2 : n2 ≤ n + 1 := by have := hown2.1; have := pushL_length M (loA A p, hiA A p); have := hown.1; omega
        have hbx := hbel.trans (Below.undrewN hb2)
        go_wp2_with fail
        go_roundw
        case rel => exact ⟨p + 1, q, n2, _, ao2, cap2, by omega, by omega, by omega, by go_num, by go_num, rfl, hown2, hst, hbx⟩
        case measure => simp [intOf]; omega
    · by_cases hj : q < B.length
      · obtain ⟨b', off', rfl, hb', hc'⟩ := hcb (by omega)
        obtain ⟨hc0', hc1'⟩ := hc'.get (hbw.trans (hbel.mono (by omega))) hb' hj
        have t1 : ((q : Int) == (B.length : Int)) = false := by simp; omega
        have t2 : decide ((p : Int) < (A.length : Int)) = false := by simp; omega
        have hst := uni_B hi hj he
        clear hca hcb hc' he
        go_wp2_with fail
        go_quiet (fail)
        go_wp2_with fail
        refine (push_any ao' cap' n (w.heap.size + 3) M _ _ _ (hown.drewN _) (by omega) (by show _ ≤ wr.heap.size; omega)).mono ?_
        rintro e w2 ⟨ao2, cap2, n2, rfl, hown2, hb2⟩
        have hn2 : n2 ≤ n + 1 := by have := hown2.1; have := pushL_length M (loA B q, hiA B q); have := hown.1; omega
        have hbx := hbel.trans (Below.undrewN hb2)
        go_wp2_with fail
        go_roundw
        case rel => exact ⟨p, q + 1, n2, _, ao2, cap2, by omega, by omega, by omega, by go_num, by go_num, rfl, hown2, hst, hbx⟩
        case measure => simp [intOf]; omega
      · have hfin := hide (uni_end hi hj he)
        have hres := (hbel.cell (p := ⟨w.heap.size + 1 + 1, 0, none⟩) (by simp)).trans hres1
        have hfr := (hbel.frozen (p := ⟨w.heap.size + 1 + 1, 0, none⟩) (by simp)).trans hfr1
        clear hca hcb he
        go_wp2
        refine bodyPost_ret (v := .agg #[.slice ao' n cap']) (by simp [results, Ybhm.results22, go_sem, hres]) rfl ⟨_, rfl, ?_, (fun g hg => Nat.le_trans (by omega) (hown.fr g hg)), ((hbw.trans (hbel.mono (by omega))).setCell (by simp; omega) _)⟩
        rw [hfin.out]
        exact (hown.setBelow (by simp) _).sl

end Go.Proofs.Ymbrbh
