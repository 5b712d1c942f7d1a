/-
  'Rows.LawS930006EUnionSaid': THE ROW's STEP (the kit's own shell, turned to this law's parameters). The walk: YmbrbiWEUnion.lean.
-/
import Derived.Test.YmbrbiRows
import Derived.Test.YmbrbiOpen
import Derived.Test.YmbrbiWEUnion
import Derived.WalkKit
import Derived.ProofKit
import Derived.OpenShut
import Derived.ShutString
import Derived.ChangeOld
import Derived.Below
namespace Go.Proofs.Ymbrbi.PEUnion
open Go.ChangeShapes Go.WideShapes Go.ChangeAt Go.RowKit
set_option linter.unusedVariables false

theorem own : ownKnob Ybim.prog.godebug = none := by kernel_rfl
theorem laidOut : laidOutB Ybim.prog = true := by kernel_rfl

set_option maxRecDepth 100000 in
theorem lifted (os : Os) (started : os.Started) (H : Type) (enc : TypeId × Value → H) :
    ReturnsInHanded {} Ybim.checked os 5 .any (Rows.lawS930006EUnionSpec.pre6 enc Ybim.prog Ybim.f5 Rows.lawS930006EUnionRow.domain false) (Rows.lawS930006EUnionSpec.post enc Ybim.prog Ybim.f5 false true false false) := by
  refine returnsInHanded_of_change (C := Ybim.checked) own started (by kernel_rfl) Ybim.func5
    (ChangeSpec.witness6 (enc := enc) (C := Ybim.checked) false ⟨#[], #[.slice none 0 0, .int .i64 0], []⟩ 8 (by kernel_rfl) (by kernel_rfl) (by kernel_rfl) (by kernel_rfl)) ?_
  intro W base args ds gs before hval0 hW hcnd _
  have hval : ∀ (j : Nat) t v, Ybim.f5.params[j]? = some t → args[j]? = some v → Value.okWide Ybim.prog W .any base t v := hval0
  have hW' := hW
  obtain ⟨p, q, hA0, hV, rfl, hfz, hnd⟩ := hW
  have hA : DataW.TrodAll enc Ybim.prog W 0 (fun _ => true) true Ybim.f5.params.toList args.toList ds p := hA0
  rw [Ybim.params5] at hA hval
  obtain ⟨v0, vs0, d0, ds0, p0, q0, hargs, rfl, rfl, h0, r0⟩ := trodAll_cons hA
  obtain ⟨v1, vs1, d1, ds1, p1, q1, rfl, rfl, rfl, h1, r1⟩ := trodAll_cons r0
  obtain ⟨rfl, rfl, rfl⟩ := trodAll_nil r1
  obtain rfl : args = #[v0, v1] := by cases args; simp_all
  obtain ⟨rfl, rfl⟩ := trodVars_none hV
  have k0 := h0
  have lt0 : ∀ x ∈ p0, x.block < W.heap.size := by obtain ⟨m, hm⟩ := k0; exact DataW.trod_lt m _ _ _ hm
  obtain ⟨b0, n0, c0, e0⟩ := okWide_slice Ybim.underlying22 (hval 0 22 v0 rfl rfl)
  obtain ⟨m0, g0⟩ := h0
  obtain ⟨L0, s0, y0⟩ := sl_of_trod Ybim.underlying22 Ybim.underlying26 (by kernel_rfl) rfl rfl (by kernel_rfl) (by kernel_rfl) Ybim.underlying2 Ybim.underlying2 b0 n0 c0 e0 g0
  obtain ⟨a1, rfl, rfl, rfl, w1⟩ := open_int Ybim.underlying2 (hval 1 2 v1 rfl rfl) h1
  clear hA0 hval0
  refine (walk_EUnion v0 L0 a1 W s0 y0 w1).mono fun e W' ⟨he, bel⟩ => ?_
  subst he
  exact ⟨_, rfl, _, _, _, [], _, [], hW', trodAll_mk1 (shut_bool Ybim.underlying4 _), (trodAll_cons_mk (Below.trod laidOut (by kernel_rfl) (of_decide_eq_true (by kernel_rfl)) k0 bel lt0) (trodAll_cons_mk (shut_int Ybim.underlying2 w1) trodAll_mk0)), rfl, bel.frame _, fun h => by cases h⟩

theorem over : Rows.lawS930006EUnionRow.holds Ybim.pinned (OpenSpec.ofChange Rows.lawS930006EUnionSpec) :=
  OpenClaim.holds_of_wide 5 Ybim.f5 rfl rfl rfl rfl rfl rfl rfl ⟨rfl, rfl, rfl, rfl, rfl⟩ rfl rfl rfl rfl rfl (by kernel_rfl) Ybim.func5 (by kernel_rfl)
    (of_decide_eq_true (by kernel_rfl)) (by unfold Func.isWrapper; first | (rw [if_pos (by decide +kernel)]; kernel_rfl) | (rw [if_neg (by decide +kernel)]; exact ⟨rfl, rfl⟩))
    (fun os started H enc _ => lifted os started H enc)

end Go.Proofs.Ymbrbi.PEUnion
namespace Go.Proofs.Ymbrbi
/-- THE STATEMENT. -/
theorem proved_EUnion : Rows.LawS930006EUnionSaid := PEUnion.over
end Go.Proofs.Ymbrbi
