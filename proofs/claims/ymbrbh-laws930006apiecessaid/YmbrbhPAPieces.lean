/-
  'Rows.LawS930006APiecesSaid': THE ROW's STEP (the kit's own shell, turned to this law's parameters). The walk: YmbrbhWAPieces.lean.
-/
import Derived.Test.YmbrbhRows
import Derived.Test.YmbrbhOpen
import Derived.Test.YmbrbhWAPieces
import Derived.WalkKit
import Derived.ProofKit
import Derived.OpenShut
import Derived.ShutString
import Derived.ChangeOld
import Derived.Below
namespace Go.Proofs.Ymbrbh.PAPieces
open Go.ChangeShapes Go.WideShapes Go.ChangeAt Go.RowKit
set_option linter.unusedVariables false

theorem own : ownKnob Ybhm.prog.godebug = none := by kernel_rfl
theorem laidOut : laidOutB Ybhm.prog = true := by kernel_rfl

set_option maxRecDepth 100000 in
theorem lifted (os : Os) (started : os.Started) (H : Type) (enc : TypeId × Value → H) :
    ReturnsInHanded {} Ybhm.checked os 5 .any (Rows.lawS930006APiecesSpec.pre6 enc Ybhm.prog Ybhm.f5 Rows.lawS930006APiecesRow.domain false) (Rows.lawS930006APiecesSpec.post enc Ybhm.prog Ybhm.f5 false true false false) := by
  refine returnsInHanded_of_change (C := Ybhm.checked) own started (by kernel_rfl) Ybhm.func5
    (ChangeSpec.witness6 (enc := enc) (C := Ybhm.checked) false ⟨#[], #[.int .i64 0, .slice none 0 0, .int .i64 0, .int .i64 0], []⟩ 8 (by kernel_rfl) (by kernel_rfl) (by kernel_rfl) (by kernel_rfl)) ?_
  intro W base args ds gs before hval0 hW hcnd _
  have hval : ∀ (j : Nat) t v, Ybhm.f5.params[j]? = some t → args[j]? = some v → Value.okWide Ybhm.prog W .any base t v := hval0
  have hW' := hW
  obtain ⟨p, q, hA0, hV, rfl, hfz, hnd⟩ := hW
  have hA : DataW.TrodAll enc Ybhm.prog W 0 (fun _ => true) true Ybhm.f5.params.toList args.toList ds p := hA0
  rw [Ybhm.params5] at hA hval
  obtain ⟨v0, vs0, d0, ds0, p0, q0, hargs, rfl, rfl, h0, r0⟩ := trodAll_cons hA
  obtain ⟨v1, vs1, d1, ds1, p1, q1, rfl, rfl, rfl, h1, r1⟩ := trodAll_cons r0
  obtain ⟨v2, vs2, d2, ds2, p2, q2, rfl, rfl, rfl, h2, r2⟩ := trodAll_cons r1
  obtain ⟨v3, vs3, d3, ds3, p3, q3, rfl, rfl, rfl, h3, r3⟩ := trodAll_cons r2
  obtain ⟨rfl, rfl, rfl⟩ := trodAll_nil r3
  obtain rfl : args = #[v0, v1, v2, v3] := by cases args; simp_all
  obtain ⟨rfl, rfl⟩ := trodVars_none hV
  obtain ⟨a0, rfl, rfl, rfl, w0⟩ := open_int Ybhm.underlying2 (hval 0 2 v0 rfl rfl) h0
  have k1 := h1
  have lt1 : ∀ x ∈ p1, x.block < W.heap.size := by obtain ⟨m, hm⟩ := k1; exact DataW.trod_lt m _ _ _ hm
  obtain ⟨b1, n1, c1, e1⟩ := okWide_slice Ybhm.underlying22 (hval 1 22 v1 rfl rfl)
  obtain ⟨m1, g1⟩ := h1
  obtain ⟨L1, s1, y1⟩ := sl_of_trod Ybhm.underlying22 Ybhm.underlying51 (by kernel_rfl) rfl rfl (by kernel_rfl) (by kernel_rfl) Ybhm.underlying40 Ybhm.underlying40 b1 n1 c1 e1 g1
  obtain ⟨a2, rfl, rfl, rfl, w2⟩ := open_int Ybhm.underlying2 (hval 2 2 v2 rfl rfl) h2
  obtain ⟨a3, rfl, rfl, rfl, w3⟩ := open_int Ybhm.underlying2 (hval 3 2 v3 rfl rfl) h3
  clear hA0 hval0
  refine (walk_APieces a0 v1 L1 a2 a3 W w0 s1 y1 w2 w3).mono fun e W' ⟨he, bel⟩ => ?_
  subst he
  exact ⟨_, rfl, _, _, _, [], _, [], hW', trodAll_mk1 (shut_bool Ybhm.underlying4 _), (trodAll_cons_mk (shut_int Ybhm.underlying2 w0) (trodAll_cons_mk (Below.trod laidOut (by kernel_rfl) (of_decide_eq_true (by kernel_rfl)) k1 bel lt1) (trodAll_cons_mk (shut_int Ybhm.underlying2 w2) (trodAll_cons_mk (shut_int Ybhm.underlying2 w3) trodAll_mk0)))), rfl, bel.frame _, fun h => by cases h⟩

theorem over : Rows.lawS930006APiecesRow.holds Ybhm.pinned (OpenSpec.ofChange Rows.lawS930006APiecesSpec) :=
  OpenClaim.holds_of_wide 5 Ybhm.f5 rfl rfl rfl rfl rfl rfl rfl ⟨rfl, rfl, rfl, rfl, rfl⟩ rfl rfl rfl rfl rfl (by kernel_rfl) Ybhm.func5 (by kernel_rfl)
    (of_decide_eq_true (by kernel_rfl)) (by unfold Func.isWrapper; first | (rw [if_pos (by decide +kernel)]; kernel_rfl) | (rw [if_neg (by decide +kernel)]; exact ⟨rfl, rfl⟩))
    (fun os started H enc _ => lifted os started H enc)

end Go.Proofs.Ymbrbh.PAPieces
namespace Go.Proofs.Ymbrbh
/-- THE STATEMENT. -/
theorem proved_APieces : Rows.LawS930006APiecesSaid := PAPieces.over
end Go.Proofs.Ymbrbh
