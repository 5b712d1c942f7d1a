import Derived.Test.YmbrbjWFrom
import Derived.Test.YmbrbjWCnt
import Derived.Test.YmbrbjThyCnt2
import Derived.Deep.RegionWith
namespace Go.Proofs.Ymbrbj
open Go.RowKit

def mx (a b : Int) : Int := if a < b then b else a
/-- What the loop has found among the first k spans: the least value not below x. -/
def CeilOf (L : List (Int × Int)) (x : Int) (k : Nat) (found : Bool) (want : Int) : Prop :=
  (found = true → (∃ j, j < k ∧ loA L j < hiA L j ∧ x < hiA L j ∧ want = mx (loA L j) x) ∧ ∀ j, j < k → loA L j < hiA L j → x < hiA L j → want ≤ mx (loA L j) x) ∧ (found = false → want = 0 ∧ ∀ j, j < k → loA L j < hiA L j → hiA L j ≤ x)

theorem ceil_skip {L : List (Int × Int)} {x : Int} {k : Nat} {found : Bool} {want : Int} (h : CeilOf L x k found want) (h1 : loA L k < hiA L k → hiA L k ≤ x) : CeilOf L x (k + 1) found want := by
  obtain ⟨a1, a2⟩ := h
  refine ⟨fun e => ?_, fun e => ⟨(a2 e).1, fun j hj h2 => ?_⟩⟩
  · obtain ⟨⟨j, hj, h2, h3, h3'⟩, h4⟩ := a1 e
    refine ⟨⟨j, by omega, h2, h3, h3'⟩, fun i hi h5 h6 => ?_⟩
    by_cases hik : i = k
    · subst hik; have := h1 h5; omega
    · exact h4 i (by omega) h5 h6
  · by_cases hik : j = k
    · subst hik; exact h1 h2
    · exact (a2 e).2 j (by omega) h2
theorem ceil_new {L : List (Int × Int)} {x : Int} {k : Nat} {found : Bool} {want : Int} (h : CeilOf L x k found want) (h1 : loA L k < hiA L k) (h2 : x < hiA L k) (h3 : found = true → mx (loA L k) x < want) : CeilOf L x (k + 1) true (mx (loA L k) x) := by
  obtain ⟨a1, a2⟩ := h
  refine ⟨fun _ => ⟨⟨k, by omega, h1, h2, rfl⟩, fun i hi h5 h6 => ?_⟩, fun e => by cases e⟩
  by_cases hik : i = k
  · subst hik; omega
  · cases hany : found with
    | true => have := (a1 hany).2 i (by omega) h5 h6; have := h3 hany; omega
    | false => have := (a2 hany).2 i (by omega) h5; omega
theorem ceil_old {L : List (Int × Int)} {x : Int} {k : Nat} {want : Int} (h : CeilOf L x k true want) (h2 : want ≤ mx (loA L k) x) : CeilOf L x (k + 1) true want := by
  obtain ⟨a1, a2⟩ := h
  obtain ⟨⟨j, hj, h3, h4, h4'⟩, h5⟩ := a1 rfl
  refine ⟨fun _ => ⟨⟨j, by omega, h3, h4, h4'⟩, fun i hi h6 h7 => ?_⟩, fun e => by cases e⟩
  by_cases hik : i = k
  · subst hik; exact h2
  · exact h5 i (by omega) h6 h7
theorem has_idx' {L : List (Int × Int)} {x : Int} (h : has L x = true) : ∃ j, j < L.length ∧ loA L j ≤ x ∧ x < hiA L j := by
  obtain ⟨p, hp, h1, h2⟩ := has_mem h
  obtain ⟨j, hj, e⟩ := List.getElem_of_mem hp
  have := getA hj
  rw [e] at this
  refine ⟨j, hj, ?_, ?_⟩
  · rw [← this] at h1; exact h1
  · rw [← this] at h2; exact h2
theorem idx_has' : ∀ {L : List (Int × Int)} {x : Int} {j : Nat}, j < L.length → loA L j ≤ x → x < hiA L j → has L x = true := by
  intro L
  induction L with
  | nil => intro x j hj; simp at hj
  | cons p R ih =>
    intro x j hj h1 h2
    rw [has_cons]
    cases j with
    | zero => rw [loA_zero] at h1; rw [hiA_zero] at h2; exact .inl ⟨h1, h2⟩
    | succ j => rw [loA_cons] at h1; rw [hiA_cons] at h2; exact .inr (ih (by simpa using hj) h1 h2)
theorem ceil_end {L S : List (Int × Int)} {x : Int} {h : Int} (hs : Can h S) (hh : ∀ y, has S y = has L y) {found : Bool} {want : Int} (hc : CeilOf L x L.length found want) : sel S (rank S x) = (want, found) := by
  obtain ⟨a1, a2⟩ := hc
  cases found with
  | true =>
    obtain ⟨⟨j, hj, h3, h4, h4'⟩, h5⟩ := a1 rfl
    unfold mx at h4' h5
    refine sel_rank hs (y := want) ?_ ?_ ?_
    · rw [hh]; exact idx_has' hj (by split at h4' <;> omega) (by split at h4' <;> omega)
    · split at h4' <;> omega
    · intro z hz hxz
      rw [hh] at hz
      obtain ⟨i, hi, g1, g2⟩ := has_idx' hz
      have := h5 i hi (by omega) (by omega)
      split at this <;> omega
  | false =>
    obtain ⟨rfl, h5⟩ := a2 rfl
    refine sel_none ?_
    rcases Int.lt_or_le (rank S x) (cnt S) with c | c
    · obtain ⟨v, _, hv, hr⟩ := sel_some hs (rank_nonneg x S) c
      exfalso
      rcases Int.lt_or_le v x with g | g
      · have := rank_member hs hv g; omega
      · rw [hh] at hv
        obtain ⟨i, hi, g1, g2⟩ := has_idx' hv
        have := h5 i hi (by omega)
        omega
    · exact c

set_option maxHeartbeats 4000000 in
theorem walk_JCeiling (v : Value) (L : List (Int × Int)) (x : Int) (w : World) (hs : Sl .i64 w v L) (hr : RL .i64 L) (w1 : (Lit.int .i64 x).wf = true) :
    Calls Ybjm.prog 8 #[v, .int .i64 x] w fun e w' => e = .returned (.bool true) ∧ Below w.heap.size w w' := by
  obtain ⟨x0, x1⟩ := bounds_i64 w1
  clear w1
  have hs' := hs
  obtain ⟨ao, cap, rfl, hl, hm, hcell⟩ := hs
  by_cases hbig : 1024 < L.length
  · clear hcell
    go_enter Ybjm.func8, Ybjm.ntmps8
    go_wp2
    go_ret
    exact ⟨rfl, Below.refl _ _⟩
  · go_enter Ybjm.func8, Ybjm.ntmps8
    go_wp2_with fail
    go_loopw [5, 6, 7] (fun t u i wr => ∃ (j : Nat) (found : Bool) (want : Int), j ≤ L.length ∧ i = .int .i64 j ∧ u = .bool found ∧ t = .int .i64 want ∧ CeilOf L x j found want ∧ Below w.heap.size w wr)
      (fun _ _ i _ => L.length - (intOf i).toNat)
    case atStart => exact ⟨0, false, 0, Nat.zero_le _, rfl, rfl, rfl, ⟨(fun e => by cases e), (fun _ => ⟨rfl, fun j hj => by omega⟩)⟩, Below.refl _ _⟩
    case round =>
      obtain ⟨j, found, want, hj, rfl, rfl, rfl, hce, hbel⟩ := hrel
      by_cases hlt : j < L.length
      · obtain ⟨b, off, rfl, hb, hc⟩ := hcell (by omega)
        obtain ⟨hc0, hc1⟩ := hc.get hbel hb hlt
        have hB1 := hbel.alloc hbel.size (.cells #[.int .i64 (loA L j), .int .i64 (hiA L j)] 28)
        have hbl : b < wr.heap.size := Nat.lt_of_lt_of_le hb hbel.size
        clear hcell hc hs' hr
        rcases Int.lt_or_le (loA L j) (hiA L j) with h1 | h1
        · rcases Int.lt_or_le x (hiA L j) with h2 | h2
          · rcases Int.lt_or_le (loA L j) x with h3 | h3
            · have hmx : mx (loA L j) x = x := if_pos h3
              cases found
              · have hst := ceil_new hce h1 h2 (fun e => by cases e)
                rw [hmx] at hst
                clear hce hmx
                go_wp2
                go_roundw
                case rel => exact ⟨j + 1, true, _, by omega, by go_num, rfl, rfl, hst, hB1⟩
                case measure => simp [intOf]; omega
              · rcases Int.lt_or_le x want with h4 | h4
                · have hst := ceil_new hce h1 h2 (fun _ => by rw [hmx]; exact h4)
                  rw [hmx] at hst
                  clear hce hmx
                  go_wp2
                  go_roundw
                  case rel => exact ⟨j + 1, true, _, by omega, by go_num, rfl, rfl, hst, hB1⟩
                  case measure => simp [intOf]; omega
                · have hst := ceil_old hce (by rw [hmx]; exact h4)
                  clear hce hmx
                  go_wp2
                  go_roundw
                  case rel => exact ⟨j + 1, true, _, by omega, by go_num, rfl, rfl, hst, hB1⟩
                  case measure => simp [intOf]; omega
            · have hmx : mx (loA L j) x = loA L j := if_neg (by omega)
              cases found
              · have hst := ceil_new hce h1 h2 (fun e => by cases e)
                rw [hmx] at hst
                clear hce hmx
                go_wp2
                go_roundw
                case rel => exact ⟨j + 1, true, _, by omega, by go_num, rfl, rfl, hst, hB1⟩
                case measure => simp [intOf]; omega
              · rcases Int.lt_or_le (loA L j) want with h4 | h4
                · have hst := ceil_new hce h1 h2 (fun _ => by rw [hmx]; exact h4)
                  rw [hmx] at hst
                  clear hce hmx
                  go_wp2
                  go_roundw
                  case rel => exact ⟨j + 1, true, _, by omega, by go_num, rfl, rfl, hst, hB1⟩
                  case measure => simp [intOf]; omega
                · have hst := ceil_old hce (by rw [hmx]; exact h4)
                  clear hce hmx
                  go_wp2
                  go_roundw
                  case rel => exact ⟨j + 1, true, _, by omega, by go_num, rfl, rfl, hst, hB1⟩
                  case measure => simp [intOf]; omega
          · have hst := ceil_skip hce (fun _ => h2)
            clear hce
            go_wp2
            go_roundw
            case rel => exact ⟨j + 1, found, _, by omega, by go_num, rfl, rfl, hst, hB1⟩
            case measure => simp [intOf]; omega
        · have hst := ceil_skip hce (fun h => by omega)
          clear hce
          go_wp2
          go_roundw
          case rel => exact ⟨j + 1, found, _, by omega, by go_num, rfl, rfl, hst, hB1⟩
          case measure => simp [intOf]; omega
      · obtain rfl : j = L.length := by omega
        have hrS := fromS_RL hr
        have hcS := fromS_canon L
        have hcan := hrS.can hcS
        have hsel := hide (ceil_end hcan (fromS_has L) hce)
        have hru := hide (hrS.rank_u64 hcS x)
        have p0 := rank_nonneg x (fromS L)
        have p1 := Int.le_trans (rank_le x (fromS L)) (hrS.cnt_le hcS).2
        clear hcell hce hcan hcS
        go_wp2_with fail
        refine (from_any _ L _ (hs'.below hbel) (by omega)).mono ?_
        rintro e w2 ⟨v2, rfl, hsl2, _, hb2⟩
        generalize fromS L = S at *
        obtain ⟨m, hm⟩ : ∃ m, rank S x = m := ⟨_, rfl⟩
        replace hru := hide (hru.out.trans hm)
        rw [hm] at hsel p0 p1
        obtain ⟨a2, n2, c2, hv2⟩ := hsl2.shape
        subst hv2
        have hB2 := hbel.trans (hb2.mono hbel.size)
        clear hm
        go_wp2_with fail
        have hX : (w2.alloc (.cells #[.slice a2 n2 c2] 24)).cell? ⟨w2.heap.size, 0, none⟩ = some (.slice a2 n2 c2) := by simp [go_sem]
        have hS := hsl2.alloc (.cells #[.slice a2 n2 c2] 24)
        have hBW := hB2.alloc hB2.size (.cells #[.slice a2 n2 c2] 24)
        have hzW : w2.heap.size < (w2.alloc (.cells #[.slice a2 n2 c2] 24)).heap.size := by simp
        generalize w2.alloc (.cells #[.slice a2 n2 c2] 24) = W at *
        clear hsl2 hB2 hb2
        go_region_with (first | (go_at_call 23; refine (rank_any _ S x _ (by exact hS) hrS x1).mono ?_; rintro e w3 ⟨rfl, hb3⟩; rw [hru.out]; have hb3' := Below.undrew hb3; have hx3 := (hb3'.cell (p := ⟨w2.heap.size, 0, none⟩) hzW).trans hX; have hS3 := hS.below hb3') | (go_at_call 19; refine (select_any _ S m _ (by exact hS3) hrS p0 p1).mono ?_; rintro e w4 ⟨rfl, hb4⟩; rw [hsel.out]))
        all_goals
          have hB4 := (hBW.trans (hb3'.mono hBW.size)).trans (hb4.mono (Nat.le_trans hBW.size hb3'.size))
          go_wp2
          go_ret
          exact ⟨ret_bool (by simp), hB4⟩

end Go.Proofs.Ymbrbj
