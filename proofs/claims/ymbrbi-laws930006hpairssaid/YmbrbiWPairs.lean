import Derived.Test.YmbrbiOwn4
import Derived.Test.YmbrbiThyInt
import Derived.Deep.QuietTactic
import Derived.BigQuiet
import Derived.RegionTactic
import Derived.BigRegion
namespace Go.Proofs.Ymbrbi
open Go.RowKit

variable {A B M : List (Int × Int)} {i j : Nat}

theorem pr_in (hi : i < A.length) (he : Hid (pairsL A B = M ++ pairsL (A.drop i) B)) : Hid (pairsL A B = M ++ (rowP (loA A i, hiA A i) (B.drop 0) ++ pairsL (A.drop (i + 1)) B)) := by
  show _ = _
  rw [he.out, drop_cons hi, pairsL, List.drop_zero]
theorem pr_end (hi : ¬ i < A.length) (he : Hid (pairsL A B = M ++ pairsL (A.drop i) B)) : pairsL A B = M := by
  rw [he.out, drop_end hi, pairsL]; simp
theorem pr_hit {X : List (Int × Int)} {p : Int × Int} (hj : j < B.length) (he : Hid (pairsL A B = M ++ (rowP p (B.drop j) ++ X))) (a b : Int) (h1 : mxI p.1 (loA B j) = a) (h2 : mnI p.2 (hiA B j) = b) (h : a < b) : Hid (pairsL A B = (M ++ [(a, b)]) ++ (rowP p (B.drop (j + 1)) ++ X)) := by
  show _ = _
  rw [he.out, drop_cons hj, rowP, h1, h2, one, if_pos h]; simp
theorem pr_miss {X : List (Int × Int)} {p : Int × Int} (hj : j < B.length) (he : Hid (pairsL A B = M ++ (rowP p (B.drop j) ++ X))) (h : mnI p.2 (hiA B j) ≤ mxI p.1 (loA B j)) : Hid (pairsL A B = M ++ (rowP p (B.drop (j + 1)) ++ X)) := by
  show _ = _
  rw [he.out, drop_cons hj, rowP, one_none h]; simp
theorem pr_out {X : List (Int × Int)} {p : Int × Int} (hj : ¬ j < B.length) (he : Hid (pairsL A B = M ++ (rowP p (B.drop j) ++ X))) : Hid (pairsL A B = M ++ X) := by
  show _ = _
  rw [he.out, drop_end hj, rowP]; simp

set_option maxHeartbeats 2000000 in
theorem pairs_any (va vb : Value) (A B : List (Int × Int)) (w : World) (ha : Sl .i64 w va A) (hb : Sl .i64 w vb B) (hnA : A.length ≤ 1024) (hnB : B.length ≤ 1024) :
    Calls Ybim.prog 31 #[va, vb] w fun e w' => ∃ v', e = .returned v' ∧ Sl .i64 w' v' (pairsL A B) ∧ Below w.heap.size w w' := by
  obtain ⟨aa, ca, rfl, hla, hma, hca⟩ := ha
  obtain ⟨ab, cb, rfl, hlb, hmb, hcb⟩ := hb
  go_enter Ybim.func31, Ybim.ntmps31
  go_wp2
  go_loopw [5, 6] (fun v i wr => ∃ (p n : Nat) (M : List (Int × Int)) (ao' : Option Addr) (cap' : Nat), p ≤ A.length ∧ n ≤ 1024 * p ∧ i = .int .i64 p ∧ v = .slice ao' n cap' ∧ Own wr w.heap.size ao' cap' n M ∧ Hid (pairsL A B = M ++ pairsL (A.drop p) B) ∧ Below w.heap.size w wr)
    (fun _ i _ => A.length - (intOf i).toNat)
  case atStart => exact ⟨0, 0, [], none, 0, Nat.zero_le _, Nat.le_refl _, rfl, rfl, Own.nil _ _, rfl, Below.refl _ _⟩
  case round =>
    obtain ⟨p, n, M, ao', cap', hp, hnp, rfl, rfl, hown, he, hbel⟩ := hrel
    by_cases hlt : p < A.length
    · obtain ⟨b, off, rfl, hb, hc⟩ := hca (by omega)
      have hin := pr_in hlt he
      clear hca he
      go_wp2_with fail
      go_loopw [5, 7] (fun v j wr => ∃ (q m : Nat) (M : List (Int × Int)) (ao' : Option Addr) (cap' : Nat), q ≤ B.length ∧ m ≤ 1024 * p + q ∧ j = .int .i64 q ∧ v = .slice ao' m cap' ∧ Own wr w.heap.size ao' cap' m M ∧ Hid (pairsL A B = M ++ (rowP (loA A p, hiA A p) (B.drop q) ++ pairsL (A.drop (p + 1)) B)) ∧ Below w.heap.size w wr)
        (fun _ j _ => B.length - (intOf j).toNat)
      case atStart => exact ⟨0, n, M, ao', cap', Nat.zero_le _, by omega, rfl, rfl, hown, hin, hbel⟩
      case round =>
        obtain ⟨q, m, M2, ao2, cap2, hq, hmq, rfl, rfl, hown2, he2, hbel2⟩ := hrel
        clear hin hown
        have hz := hbel2.size
        by_cases hlt2 : q < B.length
        · obtain ⟨b', off', rfl, hb', hc'⟩ := hcb (by omega)
          obtain ⟨hc0, hc1⟩ := hc.get hbel2 hb hlt
          obtain ⟨hc0', hc1'⟩ := hc'.get hbel2 hb' hlt2
          clear hcb hc hc'
          obtain ⟨a, hA⟩ : ∃ a, mxI (loA A p) (loA B q) = a := ⟨_, rfl⟩
          obtain ⟨d, hD⟩ : ∃ d, mnI (hiA A p) (hiA B q) = d := ⟨_, rfl⟩
          rcases Int.lt_or_le a d with c3 | c3
          · have hst := pr_hit hlt2 he2 a d hA hD c3
            unfold mxI at hA
            unfold mnI at hD
            clear he2
            go_wp2_with fail
            go_region
            go_wp2_with fail
            go_region
            go_wp2_with (at_builtin; refine wp_app3 _ a d rfl _ _ rfl w.heap.size ao2 cap2 m M2 rfl (by first | exact (hown2.alloc _).drew | exact ((hown2.alloc _).drew).drew | exact (hown2.drew).alloc _ | exact ((hown2.drew).drew).alloc _) _ rfl (by simp [go_sem]) (by simp [go_sem]) (by omega) (by simp [go_sem]; omega) ?_; intro ao3 cap3 w3 hown3 hb3 hk3)
            have hb3' : Below w.heap.size w w3 := by first | exact hbel2.trans (Below.trans (Below.drew (((Below.refl w.heap.size wr).alloc hz _))) hb3) | exact hbel2.trans (Below.trans (Below.drew (Below.drew (((Below.refl w.heap.size wr).alloc hz _)))) hb3)
            go_roundw
            case rel => exact ⟨q + 1, m + 1, _, ao3, cap3, by omega, by omega, by go_num, rfl, hown3, hst, hb3'⟩
            case measure => simp [intOf]; omega
          · have hst := pr_miss hlt2 he2 (by rw [hA, hD]; exact c3)
            unfold mxI at hA
            unfold mnI at hD
            clear he2
            go_wp2_with fail
            go_region
            go_wp2_with fail
            go_region
            go_wp2_with fail
            go_roundw
            case rel => exact ⟨q + 1, m, _, ao2, cap2, by omega, by omega, by go_num, rfl, by first | exact hown2.drew | exact hown2.drew.drew, hst, by first | exact hbel2.drew | exact hbel2.drew.drew⟩
            case measure => simp [intOf]; omega
        · have hst := pr_out hlt2 he2
          clear hcb he2
          go_wp2_with fail
          go_roundw
          case rel => exact ⟨p + 1, m, M2, ao2, cap2, by omega, by omega, by go_num, rfl, hown2, hst, hbel2⟩
          case measure => simp [intOf]; omega
    · have hfin := hide (pr_end hlt he)
      clear hca hcb he
      go_wp2_with fail
      go_ret
      exact ⟨_, rfl, by rw [hfin.out]; exact hown.sl, hbel⟩

end Go.Proofs.Ymbrbi
