import Derived.Test.YmbrbjWFrom
import Derived.Test.YmbrbjWCnt
import Derived.Test.YmbrbjThyCnt2
import Derived.Deep.QuietTactic
import Derived.BigQuiet
namespace Go.Proofs.Ymbrbj
open Go.RowKit

/-- What the loop has found among the first k spans: whether one is not empty, and the greatest value. -/
def TopOf (L : List (Int × Int)) (k : Nat) (any : Bool) (top : Int) : Prop :=
  (any = true → (∃ j, j < k ∧ loA L j < hiA L j ∧ top = hiA L j - 1) ∧ ∀ j, j < k → loA L j < hiA L j → hiA L j - 1 ≤ top) ∧ (any = false → ∀ j, j < k → hiA L j ≤ loA L j)

theorem top_skip {L : List (Int × Int)} {k : Nat} {any : Bool} {top : Int} (h : TopOf L k any top) (h1 : hiA L k ≤ loA L k) : TopOf L (k + 1) any top := by
  obtain ⟨a1, a2⟩ := h
  refine ⟨fun e => ?_, fun e j hj => ?_⟩
  · obtain ⟨⟨j, hj, h2, h3⟩, h4⟩ := a1 e
    refine ⟨⟨j, by omega, h2, h3⟩, fun i hi h5 => ?_⟩
    by_cases hik : i = k
    · subst hik; omega
    · exact h4 i (by omega) h5
  · by_cases hik : j = k
    · subst hik; exact h1
    · exact a2 e j (by omega)
theorem top_new {L : List (Int × Int)} {k : Nat} {any : Bool} {top : Int} (h : TopOf L k any top) (h1 : loA L k < hiA L k) (h2 : any = true → top < hiA L k - 1) : TopOf L (k + 1) true (hiA L k - 1) := by
  obtain ⟨a1, a2⟩ := h
  refine ⟨fun _ => ⟨⟨k, by omega, h1, rfl⟩, fun i hi h5 => ?_⟩, fun e => by cases e⟩
  by_cases hik : i = k
  · subst hik; omega
  · cases hany : any with
    | true => have := (a1 hany).2 i (by omega) h5; have := h2 hany; omega
    | false => have := a2 hany i (by omega); omega
theorem top_old {L : List (Int × Int)} {k : Nat} {top : Int} (h : TopOf L k true top) (h2 : hiA L k - 1 ≤ top) : TopOf L (k + 1) true top := by
  obtain ⟨a1, a2⟩ := h
  obtain ⟨⟨j, hj, h3, h4⟩, h5⟩ := a1 rfl
  refine ⟨fun _ => ⟨⟨j, by omega, h3, h4⟩, fun i hi h6 => ?_⟩, fun e => by cases e⟩
  by_cases hik : i = k
  · subst hik; exact h2
  · exact h5 i (by omega) h6
theorem has_idx {L : List (Int × Int)} {x : Int} (h : has L x = true) : ∃ j, j < L.length ∧ loA L j ≤ x ∧ x < hiA L j := by
  obtain ⟨p, hp, h1, h2⟩ := has_mem h
  obtain ⟨j, hj, e⟩ := List.getElem_of_mem hp
  have := getA hj
  rw [e] at this
  refine ⟨j, hj, ?_, ?_⟩
  · rw [← this] at h1; exact h1
  · rw [← this] at h2; exact h2
theorem idx_has : ∀ {L : List (Int × Int)} {x : Int} {j : Nat}, j < L.length → loA L j ≤ x → x < hiA L j → has L x = true := by
  intro L
  induction L with
  | nil => intro x j hj; simp at hj
  | cons p R ih =>
    intro x j hj h1 h2
    rw [has_cons]
    cases j with
    | zero => rw [loA_zero] at h1; rw [hiA_zero] at h2; exact .inl ⟨h1, h2⟩
    | succ j => rw [loA_cons] at h1; rw [hiA_cons] at h2; exact .inr (ih (by simpa using hj) h1 h2)

set_option maxHeartbeats 4000000 in
theorem walk_LSelect (v : Value) (L : List (Int × Int)) (k : Int) (w : World) (hs : Sl .i64 w v L) (hr : RL .i64 L) (w1 : (Lit.int .u64 k).wf = true) :
    Calls Ybjm.prog 14 #[v, .int .u64 k] w fun e w' => e = .returned (.bool true) ∧ Below w.heap.size w w' := by
  obtain ⟨k0, k1⟩ := bounds_u64 w1
  clear w1
  have hs' := hs
  obtain ⟨ao, cap, rfl, hl, hm, hcell⟩ := hs
  by_cases hbig : 1024 < L.length
  · clear hcell
    go_enter Ybjm.func14, Ybjm.ntmps14
    go_wp2
    go_ret
    exact ⟨rfl, Below.refl _ _⟩
  · have hrS := fromS_RL hr
    have hcS := fromS_canon L
    have hhS := hide (fromS_has L)
    have hcnt := hide (hrS.cnt_u64 hcS)
    obtain ⟨q0, q1⟩ := hrS.cnt_le hcS
    have hcan := hrS.can hcS
    go_enter Ybjm.func14, Ybjm.ntmps14
    go_wp2_with fail
    go_loopw [5, 6, 7] (fun u t i wr => ∃ (j : Nat) (any : Bool) (top : Int), j ≤ L.length ∧ i = .int .i64 j ∧ u = .bool any ∧ t = .int .i64 top ∧ TopOf L j any top ∧ Below w.heap.size w wr)
      (fun _ _ i _ => L.length - (intOf i).toNat)
    case atStart => exact ⟨0, false, 0, Nat.zero_le _, rfl, rfl, rfl, ⟨(fun e => by cases e), (fun _ j hj => by omega)⟩, Below.refl _ _⟩
    case round =>
      obtain ⟨j, any, top, hj, rfl, rfl, rfl, htop, hbel⟩ := hrel
      by_cases hlt : j < L.length
      · obtain ⟨b, off, rfl, hb, hc⟩ := hcell (by omega)
        obtain ⟨hc0, hc1⟩ := hc.get hbel hb hlt
        obtain ⟨⟨g1, g2⟩, g3, g4⟩ := hr.at hlt
        clear hcell hc
        rcases Int.lt_or_le (loA L j) (hiA L j) with h1 | h1
        · cases any
          · have hst := top_new htop h1 (fun e => by cases e)
            clear htop
            go_wp2
            go_quiet (fail)
            go_wp2
            go_roundw
            case rel => exact ⟨j + 1, true, _, by omega, by go_num, rfl, rfl, hst, below_drewN hbel _⟩
            case measure => simp [intOf]; omega
          · rcases Int.lt_or_le top (hiA L j - 1) with h2 | h2
            · have hst := top_new htop h1 (fun _ => h2)
              clear htop
              go_wp2
              go_quiet (fail)
              go_wp2
              go_roundw
              case rel => exact ⟨j + 1, true, _, by omega, by go_num, rfl, rfl, hst, below_drewN hbel _⟩
              case measure => simp [intOf]; omega
            · have hst := top_old htop h2
              clear htop
              go_wp2
              go_quiet (fail)
              go_wp2
              go_roundw
              case rel => exact ⟨j + 1, true, _, by omega, by go_num, rfl, rfl, hst, below_drewN hbel _⟩
              case measure => simp [intOf]; omega
        · have hst := top_skip htop h1
          clear htop
          go_wp2
          go_quiet (fail)
          go_wp2
          go_roundw
          case rel => exact ⟨j + 1, any, _, by omega, by go_num, rfl, rfl, hst, below_drewN hbel _⟩
          case measure => simp [intOf]; omega
      · obtain rfl : j = L.length := by omega
        clear hcell
        have seln := hide (sel_none (L := fromS L) (Int.le_refl (cnt (fromS L))))
        have selk : Hid ((sel (fromS L) k).2 = decide (k < cnt (fromS L))) := by
          show _ = _
          rcases Int.lt_or_le k (cnt (fromS L)) with c | c
          · obtain ⟨x, e1, _, _⟩ := sel_some hcan k0 c
            rw [e1]; simp [c]
          · rw [sel_none c, decide_eq_false (by omega)]
        have hpos := cnt_pos hcan
        cases any
        · have hn0 : cnt (fromS L) = 0 := by
            rcases Int.lt_or_le 0 (cnt (fromS L)) with c | c
            · obtain ⟨x, hx⟩ := hpos.1 c
              rw [hhS.out] at hx
              obtain ⟨i, hi, h1, h2⟩ := has_idx hx
              have := htop.2 rfl i hi
              omega
            · omega
          have hkn : decide (k < cnt (fromS L)) = false := decide_eq_false (by omega)
          clear hpos htop
          go_wp2_with fail
          refine (from_any _ L _ (hs'.below hbel) (by omega)).mono ?_
          rintro e w2 ⟨v2, rfl, hsl2, _, hb2⟩
          generalize fromS L = S at *
          obtain ⟨a2, n2, c2, hv2⟩ := hsl2.shape
          subst hv2
          have hB2 := hbel.trans (hb2.mono hbel.size)
          go_wp2_with fail
          refine (count_any _ S _ (hsl2.alloc _) hrS).mono ?_
          rintro e w3 ⟨rfl, hb3⟩
          rw [hcnt.out, hn0]
          have hx3 : w3.cell? ⟨w2.heap.size, 0, none⟩ = some (.slice a2 n2 c2) := (hb3.cell (p := ⟨w2.heap.size, 0, none⟩) (by simp)).trans (by simp [go_sem])
          have hb3' := Below.ofAlloc hb3
          have hS3 := hsl2.below hb3'
          have hB3 := hB2.trans (hb3'.mono hB2.size)
          have hz3 : w2.heap.size < w3.heap.size := by have := hb3.size; simp at this; omega
          go_wp2_with fail
          refine (select_any _ S k _ hS3 hrS k0 k1).mono ?_
          rintro e w4 ⟨rfl, hb4⟩
          rw [selk.out, hkn]
          have hx4 := (hb4.cell (p := ⟨w2.heap.size, 0, none⟩) hz3).trans hx3
          have hS4 := hS3.below hb4
          have hB4 := hB3.trans (hb4.mono hB3.size)
          have hs0 : sel S 0 = (0, false) := by have h := seln.out; rw [hn0] at h; exact h
          go_wp2_with fail
          refine (select_any _ S 0 _ hS4 hrS (Int.le_refl 0) (by omega)).mono ?_
          rintro e w5 ⟨rfl, hb5⟩
          rw [hs0]
          go_wp2_with fail
          go_ret
          exact ⟨rfl, hB4.trans (hb5.mono hB4.size)⟩
        · obtain ⟨⟨i, hi, h1, h2⟩, h3⟩ := htop.1 rfl
          have ht : has (fromS L) top = true := by rw [hhS.out]; exact idx_has hi (by omega) (by omega)
          have hn0 : 0 < cnt (fromS L) := hpos.2 ⟨top, ht⟩
          have sel1 := hide (sel_last hcan hn0 ht (fun x hx => by
            rw [hhS.out] at hx
            obtain ⟨i', hi', g1, g2⟩ := has_idx hx
            have := h3 i' hi' (by omega)
            omega))
          clear hpos htop h1 h2 h3 ht hi
          go_wp2_with fail
          refine (from_any _ L _ (hs'.below hbel) (by omega)).mono ?_
          rintro e w2 ⟨v2, rfl, hsl2, _, hb2⟩
          generalize fromS L = S at *
          obtain ⟨a2, n2, c2, hv2⟩ := hsl2.shape
          subst hv2
          have hB2 := hbel.trans (hb2.mono hbel.size)
          obtain ⟨n, hn⟩ : ∃ n, cnt S = n := ⟨_, rfl⟩
          have hcnt' := hide (hcnt.out.trans hn)
          have seln' : Hid (sel S n = (0, false)) := by rw [← hn]; exact seln
          have selk' : Hid ((sel S k).2 = decide (k < n)) := by rw [← hn]; exact selk
          have sel1' : Hid (sel S (n - 1) = (top, true)) := by rw [← hn]; exact sel1
          rw [hn] at q0 q1 hn0
          clear hn hcnt seln selk sel1
          go_wp2_with fail
          refine (count_any _ S _ (hsl2.alloc _) hrS).mono ?_
          rintro e w3 ⟨rfl, hb3⟩
          rw [hcnt'.out]
          have hx3 : w3.cell? ⟨w2.heap.size, 0, none⟩ = some (.slice a2 n2 c2) := (hb3.cell (p := ⟨w2.heap.size, 0, none⟩) (by simp)).trans (by simp [go_sem])
          have hb3' := Below.ofAlloc hb3
          have hS3 := hsl2.below hb3'
          have hB3 := hB2.trans (hb3'.mono hB2.size)
          have hz3 : w2.heap.size < w3.heap.size := by have := hb3.size; simp at this; omega
          have hnz : (n == 0) = false := by simp; omega
          go_wp2_with fail
          refine (select_any _ S k _ hS3 hrS k0 k1).mono ?_
          rintro e w4 ⟨rfl, hb4⟩
          rw [selk'.out]
          have hx4 := (hb4.cell (p := ⟨w2.heap.size, 0, none⟩) hz3).trans hx3
          have hS4 := hS3.below hb4
          have hB4 := hB3.trans (hb4.mono hB3.size)
          have hz4 : w2.heap.size < w4.heap.size := Nat.lt_of_lt_of_le hz3 hb4.size
          go_wp2_with fail
          refine (select_any _ S n _ hS4 hrS q0 q1).mono ?_
          rintro e w5 ⟨rfl, hb5⟩
          rw [seln'.out]
          have hx5 := (hb5.cell (p := ⟨w2.heap.size, 0, none⟩) hz4).trans hx4
          have hS5 := hS4.below hb5
          have hB5 := hB4.trans (hb5.mono hB4.size)
          go_wp2_with fail
          refine (select_any _ S (n - 1) _ hS5 hrS (by omega) (by omega)).mono ?_
          rintro e w6 ⟨rfl, hb6⟩
          rw [sel1'.out]
          go_wp2_with fail
          go_ret
          exact ⟨ret_bool (by simp), hB5.trans (hb6.mono hB5.size)⟩

end Go.Proofs.Ymbrbj
