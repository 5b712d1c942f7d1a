import Derived.Test.YmbrbhOwn4
namespace Go.Proofs.Ymbrbh
open Go.RowKit

/-- Each pair with the smaller bound first. -/
def sortP (p : Int × Int) : Int × Int := if p.2 < p.1 then (p.2, p.1) else p
def borderL (L : List (Int × Int)) : List (Int × Int) := L.map sortP

theorem border_step {L M : List (Int × Int)} {k : Nat} (h : k < L.length) (he : Hid (borderL L = M ++ borderL (L.drop k))) (a b : Int) (hab : sortP (loA L k, hiA L k) = (a, b)) : Hid (borderL L = (M ++ [(a, b)]) ++ borderL (L.drop (k + 1))) := by
  show _ = _
  rw [he.out, drop_cons h]
  simp [borderL, hab]
theorem border_end {L M : List (Int × Int)} {k : Nat} (h : ¬ k < L.length) (he : Hid (borderL L = M ++ borderL (L.drop k))) : borderL L = M := by
  rw [he.out, drop_end h]; simp [borderL]
theorem borderL_length (L : List (Int × Int)) : (borderL L).length = L.length := by simp [borderL]

set_option maxHeartbeats 1000000 in
theorem border_any (v : Value) (L : List (Int × Int)) (w : World) (hs : Sl .i64 w v L) (hn : L.length ≤ 1024) :
    Calls Ybhm.prog 20 #[v] w fun e w' => ∃ v', e = .returned v' ∧ Sl .i64 w' v' (borderL L) ∧ Fr w.heap.size v' ∧ Below w.heap.size w w' := by
  obtain ⟨ao, cap, rfl, hl, hm, hcell⟩ := hs
  go_enter Ybhm.func20, Ybhm.ntmps20
  go_wp2_with (at_make; refine wp_mk0 _ w.heap.size rfl rfl _ _ rfl _ L.length rfl rfl (by omega) (by omega) ?_; intro w1 hown1 hb1)
  go_loopw [3, 4] (fun v i wr => ∃ (k : Nat) (M : List (Int × Int)) (ao' : Option Addr) (cap' : Nat), k ≤ L.length ∧ i = .int .i64 k ∧ v = .slice ao' k cap' ∧ Own wr w.heap.size ao' cap' k M ∧ Hid (borderL L = M ++ borderL (L.drop k)) ∧ Below w.heap.size w wr)
    (fun _ i _ => L.length - (intOf i).toNat)
  case atStart => exact ⟨0, [], _, _, Nat.zero_le _, rfl, rfl, hown1, rfl, hb1⟩
  case round =>
    obtain ⟨k, M, ao', cap', hk, rfl, rfl, hown, he, hbel⟩ := hrel
    have hz := hbel.size
    clear hown1 hb1
    by_cases hlt : k < L.length
    · obtain ⟨b, off, rfl, hb, hc⟩ := hcell (by omega)
      obtain ⟨hc0, hc1⟩ := hc.get hbel hb hlt
      rcases Int.lt_or_le (hiA L k) (loA L k) with c | c
      · have hst := border_step hlt he (hiA L k) (loA L k) (by simp [sortP, c])
        clear hcell hc he
        go_wp2_with (at_builtin; refine wp_app3 _ (hiA L k) (loA L k) rfl _ _ rfl w.heap.size ao' cap' k M rfl (hown.alloc _) _ rfl (by simp [go_sem]) (by simp [go_sem]) (by omega) (by simp; omega) ?_; intro ao2 cap2 w2 hown2 hb2 hk2)
        go_roundw
        case rel => exact ⟨k + 1, _, ao2, cap2, by omega, by go_num, by go_num, hown2, hst, (hbel.alloc hz _).trans hb2⟩
        case measure => simp [intOf]; omega
      · have hst := border_step hlt he (loA L k) (hiA L k) (by rw [sortP, if_neg (by simp; omega)])
        clear hcell hc he
        go_wp2_with (at_builtin; refine wp_app3 _ (loA L k) (hiA L k) rfl _ _ rfl w.heap.size ao' cap' k M rfl (hown.alloc _) _ rfl (by simp [go_sem]) (by simp [go_sem]) (by omega) (by simp; omega) ?_; intro ao2 cap2 w2 hown2 hb2 hk2)
        go_roundw
        case rel => exact ⟨k + 1, _, ao2, cap2, by omega, by go_num, by go_num, hown2, hst, (hbel.alloc hz _).trans hb2⟩
        case measure => simp [intOf]; omega
    · have hfin := hide (border_end hlt he)
      clear hcell he
      go_wp2_with fail
      go_ret
      exact ⟨_, rfl, by rw [hfin.out]; exact hown.sl, hown.fr, hbel⟩

end Go.Proofs.Ymbrbh
