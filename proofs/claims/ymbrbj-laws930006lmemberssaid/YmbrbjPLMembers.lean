/-
  'Rows.LawS930006LMembersSaid': THE ROW's STEP (the kit's own shell, turned to this law's parameters). The walk: YmbrbjWLMembers.lean.
-/
import Derived.Test.YmbrbjRows
import Derived.Test.YmbrbjOpen
import Derived.Test.YmbrbjWLMembers
import Derived.WalkKit
import Derived.ProofKit
import Derived.OpenShut
import Derived.ShutString
import Derived.ChangeOld
import Derived.Below
namespace Go.Proofs.Ymbrbj.PLMembers
open Go.ChangeShapes Go.WideShapes Go.ChangeAt Go.RowKit
set_option linter.unusedVariables false

theorem own : ownKnob Ybjm.prog.godebug = none := by kernel_rfl
theorem laidOut : laidOutB Ybjm.prog = true := by kernel_rfl

set_option maxRecDepth 100000 in
theorem lifted (os : Os) (started : os.Started) (H : Type) (enc : TypeId × Value → H) :
    ReturnsInHanded {} Ybjm.checked os 12 .any (Rows.lawS930006LMembersSpec.pre6 enc Ybjm.prog Ybjm.f12 Rows.lawS930006LMembersRow.domain false) (Rows.lawS930006LMembersSpec.post enc Ybjm.prog Ybjm.f12 false true false false) := by
  refine returnsInHanded_of_change (C := Ybjm.checked) own started (by kernel_rfl) Ybjm.func12
    (ChangeSpec.witness6 (enc := enc) (C := Ybjm.checked) false ⟨#[], #[.slice none 0 0], []⟩ 8 (by kernel_rfl) (by kernel_rfl) (by kernel_rfl) (by kernel_rfl)) ?_
  intro W base args ds gs before hval0 hW hcnd _
  have hval : ∀ (j : Nat) t v, Ybjm.f12.params[j]? = some t → args[j]? = some v → Value.okWide Ybjm.prog W .any base t v := hval0
  have hW' := hW
  obtain ⟨p, q, hA0, hV, rfl, hfz, hnd⟩ := hW
  have hA : DataW.TrodAll enc Ybjm.prog W 0 (fun _ => true) true Ybjm.f12.params.toList args.toList ds p := hA0
  rw [Ybjm.params12] at hA hval
  obtain ⟨v0, vs0, d0, ds0, p0, q0, hargs, rfl, rfl, h0, r0⟩ := trodAll_cons hA
  obtain ⟨rfl, rfl, rfl⟩ := trodAll_nil r0
  obtain rfl : args = #[v0] := by cases args; simp_all
  obtain ⟨rfl, rfl⟩ := trodVars_none hV
  have k0 := h0
  have lt0 : ∀ x ∈ p0, x.block < W.heap.size := by obtain ⟨m, hm⟩ := k0; exact DataW.trod_lt m _ _ _ hm
  obtain ⟨b0, n0, c0, e0⟩ := okWide_slice Ybjm.underlying48 (hval 0 48 v0 rfl rfl)
  obtain ⟨m0, g0⟩ := h0
  obtain ⟨L0, s0, y0⟩ := sl_of_trod Ybjm.underlying48 Ybjm.underlying51 (by kernel_rfl) rfl rfl (by kernel_rfl) (by kernel_rfl) Ybjm.underlying49 Ybjm.underlying49 b0 n0 c0 e0 g0
  clear hA0 hval0
  refine (walk_LMembers v0 L0 W s0 y0).mono fun e W' ⟨he, bel⟩ => ?_
  subst he
  exact ⟨_, rfl, _, _, _, [], _, [], hW', trodAll_mk1 (shut_bool Ybjm.underlying4 _), (trodAll_cons_mk (Below.trod laidOut (by kernel_rfl) (of_decide_eq_true (by kernel_rfl)) k0 bel lt0) trodAll_mk0), rfl, bel.frame _, fun h => by cases h⟩

theorem over : Rows.lawS930006LMembersRow.holds Ybjm.pinned (OpenSpec.ofChange Rows.lawS930006LMembersSpec) :=
  OpenClaim.holds_of_wide 12 Ybjm.f12 rfl rfl rfl rfl rfl rfl rfl ⟨rfl, rfl, rfl, rfl, rfl⟩ rfl rfl rfl rfl rfl (by kernel_rfl) Ybjm.func12 (by kernel_rfl)
    (of_decide_eq_true (by kernel_rfl)) (by unfold Func.isWrapper; first | (rw [if_pos (by decide +kernel)]; kernel_rfl) | (rw [if_neg (by decide +kernel)]; exact ⟨rfl, rfl⟩))
    (fun os started H enc _ => lifted os started H enc)

end Go.Proofs.Ymbrbj.PLMembers
namespace Go.Proofs.Ymbrbj
/-- THE STATEMENT. -/
theorem proved_LMembers : Rows.LawS930006LMembersSaid := PLMembers.over
end Go.Proofs.Ymbrbj
