import Derived.Test.YmbrbjWFrom
import Derived.Test.YmbrbjWCnt
import Derived.Test.YmbrbjThyCnt2
namespace Go.Proofs.Ymbrbj
open Go.RowKit

/-- What jkth computes. -/
def kthL : List Bool → Int → Int → Int × Bool
  | [], _, _ => (0, false)
  | c :: R, b, k => if c = true then (if k = 0 then (b, true) else kthL R (b + 1) (k - 1)) else kthL R (b + 1) k
def boA (L : List Bool) (i : Nat) : Bool := L.getD i false
theorem dropB {L : List Bool} {k : Nat} (h : k < L.length) : L.drop k = boA L k :: L.drop (k + 1) := by
  rw [List.drop_eq_getElem_cons h]; simp [boA, List.getD, h]
theorem kth_step0 {L : List Bool} {k : Nat} {b j T : Int} (h : k < L.length) (hc : boA L k = false) (he : Hid (kthL L b j = kthL (L.drop k) (b + k) T)) : Hid (kthL L b j = kthL (L.drop (k + 1)) (b + ((k + 1 : Nat) : Int)) T) := by
  show _ = _
  rw [he.out, dropB h, hc, kthL, show b + ((k + 1 : Nat) : Int) = b + k + 1 by omega]; simp
theorem kth_step1 {L : List Bool} {k : Nat} {b j T : Int} (h : k < L.length) (hc : boA L k = true) (hT : T ≠ 0) (he : Hid (kthL L b j = kthL (L.drop k) (b + k) T)) : Hid (kthL L b j = kthL (L.drop (k + 1)) (b + ((k + 1 : Nat) : Int)) (T - 1)) := by
  show _ = _
  rw [he.out, dropB h, hc, kthL, show b + ((k + 1 : Nat) : Int) = b + k + 1 by omega]; simp [hT]
theorem kth_hit {L : List Bool} {k : Nat} {b j : Int} (h : k < L.length) (hc : boA L k = true) (he : Hid (kthL L b j = kthL (L.drop k) (b + k) 0)) : kthL L b j = (b + k, true) := by
  rw [he.out, dropB h, hc, kthL]; simp
theorem kth_end {L : List Bool} {k : Nat} {b j T : Int} (h : ¬ k < L.length) (he : Hid (kthL L b j = kthL (L.drop k) (b + k) T)) : kthL L b j = (0, false) := by
  rw [he.out, List.drop_eq_nil_of_le (by omega), kthL]

/-- A canonical set that from b on holds exactly the true cells: Select counts them off. -/
theorem sel_kth {S : List (Int × Int)} {h : Int} (hs : Can h S) : ∀ (L : List Bool) (b T : Int), 0 ≤ T → (∀ x, b ≤ x → (has S x = true ↔ ∃ m : Nat, m < L.length ∧ boA L m = true ∧ x = b + m)) → sel S (rank S b + T) = kthL L b T := by
  intro L
  induction L with
  | nil =>
    intro b T hT hh
    rw [kthL]
    refine sel_none ?_
    rcases Int.lt_or_le (rank S b) (cnt S) with c | c
    · obtain ⟨v, _, hv, hr⟩ := sel_some hs (rank_nonneg b S) c
      exfalso
      rcases Int.lt_or_le v b with g | g
      · have := rank_member hs hv g; omega
      · obtain ⟨m, hm, _⟩ := (hh v g).1 hv
        simp at hm
    · omega
  | cons c R ih =>
    intro b T hT hh
    have hb : has S b = c := by
      rw [Bool.eq_iff_iff, hh b (Int.le_refl _)]
      constructor
      · rintro ⟨m, _, h1, h2⟩
        obtain rfl : m = 0 := by omega
        exact h1
      · intro e
        exact ⟨0, by simp, e, by simp⟩
    have hrs := rank_succ (x := b) hs
    rw [hb] at hrs
    have ih' := fun T hT => ih (b + 1) T hT (fun x hx => by
      rw [hh x (by omega)]
      constructor
      · rintro ⟨m, h0, h1, h2⟩
        cases m with
        | zero => omega
        | succ m => exact ⟨m, by simpa using h0, h1, by omega⟩
      · rintro ⟨m, h0, h1, h2⟩
        exact ⟨m + 1, by simpa using h0, h1, by omega⟩)
    rw [kthL]
    cases c with
    | false =>
      simp only [Bool.false_eq_true, if_false] at hrs ⊢
      rw [← ih' T hT, hrs, Int.add_zero]
    | true =>
      simp only [if_true] at hrs ⊢
      by_cases h0 : T = 0
      · subst h0
        rw [if_pos rfl, Int.add_zero]
        exact sel_rank hs hb (Int.le_refl _) (fun z _ hz => hz)
      · rw [if_neg h0, ← ih' (T - 1) (by omega), hrs]
        congr 1
        omega

/-- The set, and how many cells were true, behind the first k cells. -/
structure CellInv (L : List Bool) (b : Int) (k : Nat) (S : List (Int × Int)) : Prop where
  can : canon S = true
  all : ∀ p ∈ S, (b ≤ p.1 ∧ p.1 ≤ b + k) ∧ (b ≤ p.2 ∧ p.2 ≤ b + k)
  mem : ∀ x, has S x = true ↔ ∃ m : Nat, m < k ∧ boA L m = true ∧ x = b + m
theorem cell_start {L : List Bool} {b : Int} : CellInv L b 0 [] := ⟨rfl, by simp, fun x => by simp [has]⟩
theorem cell_skip {L : List Bool} {b : Int} {k : Nat} {S : List (Int × Int)} (h : CellInv L b k S) (hc : boA L k = false) : CellInv L b (k + 1) S := by
  refine ⟨h.can, fun p hp => by have := h.all p hp; omega, fun x => ?_⟩
  rw [h.mem x]
  constructor
  · rintro ⟨m, h0, h1, h2⟩; exact ⟨m, by omega, h1, h2⟩
  · rintro ⟨m, h0, h1, h2⟩
    by_cases e : m = k
    · subst e; rw [hc] at h1; cases h1
    · exact ⟨m, by omega, h1, h2⟩
theorem cell_add {L : List Bool} {b : Int} {k : Nat} {S : List (Int × Int)} (h : CellInv L b k S) (hc : boA L k = true) : CellInv L b (k + 1) (add S (b + k) (b + k + 1)) := by
  refine ⟨add_canon h.can _ _, add_all (P := fun x => b ≤ x ∧ x ≤ b + ((k + 1 : Nat) : Int)) (fun p hp => by have := h.all p hp; omega) (by omega) (by omega), fun x => ?_⟩
  rw [add_has h.can, h.mem x]
  constructor
  · rintro (⟨m, h0, h1, h2⟩ | h)
    · exact ⟨m, by omega, h1, h2⟩
    · exact ⟨k, by omega, hc, by omega⟩
  · rintro ⟨m, h0, h1, h2⟩
    by_cases e : m = k
    · subst e; exact .inr (by omega)
    · exact .inl ⟨m, by omega, h1, h2⟩
theorem wf_i64 {x : Int} (h1 : -9223372036854775808 ≤ x) (h2 : x ≤ 9223372036854775807) : (Lit.int .i64 x).wf = true := by
  simp [Lit.wf, IntKind.min, IntKind.max, IntKind.signed, IntKind.bits]
  omega
theorem cell_end {L : List Bool} {b : Int} {S : List (Int × Int)} (h : CellInv L b L.length S) {T : Int} (hT : 0 ≤ T) : sel S T = kthL L b T := by
  have hcan : Can (b - 1) S := can_of h.can (fun p hp => by have := h.all p hp; omega)
  have h0 : rank S b = 0 := rank_low hcan (by omega)
  have := sel_kth hcan L b T hT (fun x _ => h.mem x)
  rw [h0, Int.zero_add] at this
  exact this
theorem cell_rl {L : List Bool} {b : Int} {k : Nat} {S : List (Int × Int)} (h : CellInv L b k S) (h1 : -9223372036854775808 ≤ b) (h2 : b + k ≤ 9223372036854775807) : RL .i64 S :=
  fun p hp => by have := h.all p hp; exact ⟨wf_i64 (by omega) (by omega), wf_i64 (by omega) (by omega)⟩

theorem slb_cell {w wr : World} {L : List Bool} {b off : Nat} (hb : b < w.heap.size) (hc : ∀ i, i < L.length → w.cell? ⟨b, off + i, none⟩ = some ((L.map Value.bool).getD i default)) (hbel : Below w.heap.size w wr) {k : Nat} (hk : k < L.length) : wr.cell? ⟨b, off + k, none⟩ = some (.bool (boA L k)) := by
  rw [hbel.cell (p := ⟨b, off + k, none⟩) hb, hc k hk]
  simp [List.getD, boA, hk]

set_option maxHeartbeats 400000 in
theorem kth_any (v : Value) (L : List Bool) (b j : Int) (w : World) (hs : Sl1 w v (L.map Value.bool)) (h1 : -9223372036854775808 ≤ b) (h2 : b + L.length ≤ 9223372036854775807) (hj1 : 0 ≤ j) (hj2 : j ≤ 18446744073709551615) :
    Calls Ybjm.prog 20 #[v, .int .i64 b, .int .u64 j] w fun e w' => e = .returned (.tuple #[.int .i64 (kthL L b j).1, .bool (kthL L b j).2]) ∧ w' = w := by
  obtain ⟨ao, cap, rfl, hl, hm, hcell⟩ := hs
  simp only [List.length_map] at hl hcell
  have hinit : Hid (kthL L b j = kthL (L.drop 0) (b + ((0 : Nat) : Int)) j) := by show _ = _; simp
  go_enter Ybjm.func20, Ybjm.ntmps20
  simp only [List.length_map]
  go_wp2
  go_loop [2, 8] (fun t i => ∃ (k : Nat) (T : Int), k ≤ L.length ∧ i = .int .i64 k ∧ t = .int .u64 T ∧ 0 ≤ T ∧ T ≤ 18446744073709551615 ∧ Hid (kthL L b j = kthL (L.drop k) (b + k) T)) (fun _ i => L.length - (intOf i).toNat)
  case atStart => exact ⟨0, j, Nat.zero_le _, rfl, rfl, hj1, hj2, hinit⟩
  case round =>
    obtain ⟨k, T, hk, rfl, rfl, hT0, hT1, he⟩ := hrel
    clear hinit
    by_cases hlt : k < L.length
    · obtain ⟨bb, off, rfl, hb, hc⟩ := hcell (by omega)
      have hq := slb_cell hb hc (Below.refl _ _) hlt
      clear hc hcell
      cases hcb : boA L k
      · have hst := kth_step0 hlt hcb he
        rw [hcb] at hq
        clear he hcb
        go_wp2
        go_round
        case rel => exact ⟨k + 1, T, by omega, by go_num, rfl, hT0, hT1, hst⟩
        case measure => simp [intOf]; omega
      · rw [hcb] at hq
        by_cases hT : T = 0
        · subst hT
          have hfin := hide (kth_hit hlt hcb he)
          clear he hcb
          go_wp2
          go_ret2
          exact ⟨ret_pair (by rw [hfin.out]), rfl⟩
        · have hst := kth_step1 hlt hcb hT he
          clear he hcb
          go_wp2
          go_round
          case rel => exact ⟨k + 1, T - 1, by omega, by go_num, by go_num, by omega, by omega, hst⟩
          case measure => simp [intOf]; omega
    · clear hcell
      have hfin := hide (kth_end (by omega) he)
      go_wp2
      go_ret2
      exact ⟨ret_pair (by rw [hfin.out]), rfl⟩


end Go.Proofs.Ymbrbj
