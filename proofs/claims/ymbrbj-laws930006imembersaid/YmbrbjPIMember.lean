/-
  'Rows.LawS930006IMemberSaid': THE ROW's STEP (the kit's own shell, turned to this law's parameters). The walk: YmbrbjWIMember.lean.
-/
import Derived.Test.YmbrbjRows
import Derived.Test.YmbrbjOpen
import Derived.Test.YmbrbjWIMember
import Derived.WalkKit
import Derived.ProofKit
import Derived.OpenShut
import Derived.ShutString
import Derived.ChangeOld
import Derived.Below
namespace Go.Proofs.Ymbrbj.PIMember
open Go.ChangeShapes Go.WideShapes Go.ChangeAt Go.RowKit
set_option linter.unusedVariables false

theorem own : ownKnob Ybjm.prog.godebug = none := by kernel_rfl
theorem laidOut : laidOutB Ybjm.prog = true := by kernel_rfl

set_option maxRecDepth 100000 in
theorem lifted (os : Os) (started : os.Started) (H : Type) (enc : TypeId × Value → H) :
    ReturnsInHanded {} Ybjm.checked os 3 .any (Rows.lawS930006IMemberSpec.pre6 enc Ybjm.prog Ybjm.f3 Rows.lawS930006IMemberRow.domain false) (Rows.lawS930006IMemberSpec.post enc Ybjm.prog Ybjm.f3 false true false false) := by
  refine returnsInHanded_of_change (C := Ybjm.checked) own started (by kernel_rfl) Ybjm.func3
    (ChangeSpec.witness6 (enc := enc) (C := Ybjm.checked) false ⟨#[], #[.slice none 0 0, .int .i64 0], []⟩ 8 (by kernel_rfl) (by kernel_rfl) (by kernel_rfl) (by kernel_rfl)) ?_
  intro W base args ds gs before hval0 hW hcnd _
  have hval : ∀ (j : Nat) t v, Ybjm.f3.params[j]? = some t → args[j]? = some v → Value.okWide Ybjm.prog W .any base t v := hval0
  have hW' := hW
  obtain ⟨p, q, hA0, hV, rfl, hfz, hnd⟩ := hW
  have hA : DataW.TrodAll enc Ybjm.prog W 0 (fun _ => true) true Ybjm.f3.params.toList args.toList ds p := hA0
  rw [Ybjm.params3] at hA hval
  obtain ⟨v0, vs0, d0, ds0, p0, q0, hargs, rfl, rfl, h0, r0⟩ := trodAll_cons hA
  obtain ⟨v1, vs1, d1, ds1, p1, q1, rfl, rfl, rfl, h1, r1⟩ := trodAll_cons r0
  obtain ⟨rfl, rfl, rfl⟩ := trodAll_nil r1
  obtain rfl : args = #[v0, v1] := by cases args; simp_all
  obtain ⟨rfl, rfl⟩ := trodVars_none hV
  have k0 := h0
  have lt0 : ∀ x ∈ p0, x.block < W.heap.size := by obtain ⟨m, hm⟩ := k0; exact DataW.trod_lt m _ _ _ hm
  obtain ⟨b0, n0, c0, e0⟩ := okWide_slice Ybjm.underlying22 (hval 0 22 v0 rfl rfl)
  obtain ⟨m0, g0⟩ := h0
  obtain ⟨L0, s0, y0⟩ := sl_of_trod Ybjm.underlying22 Ybjm.underlying28 (by kernel_rfl) rfl rfl (by kernel_rfl) (by kernel_rfl) Ybjm.underlying2 Ybjm.underlying2 b0 n0 c0 e0 g0
  obtain ⟨a1, rfl, rfl, rfl, w1⟩ := open_int Ybjm.underlying2 (hval 1 2 v1 rfl rfl) h1
  clear hA0 hval0
  refine (walk_IMember v0 L0 a1 W s0 y0 w1).mono fun e W' ⟨he, bel⟩ => ?_
  subst he
  exact ⟨_, rfl, _, _, _, [], _, [], hW', trodAll_mk1 (shut_bool Ybjm.underlying4 _), (trodAll_cons_mk (Below.trod laidOut (by kernel_rfl) (of_decide_eq_true (by kernel_rfl)) k0 bel lt0) (trodAll_cons_mk (shut_int Ybjm.underlying2 w1) trodAll_mk0)), rfl, bel.frame _, fun h => by cases h⟩

theorem over : Rows.lawS930006IMemberRow.holds Ybjm.pinned (OpenSpec.ofChange Rows.lawS930006IMemberSpec) :=
  OpenClaim.holds_of_wide 3 Ybjm.f3 rfl rfl rfl rfl rfl rfl rfl ⟨rfl, rfl, rfl, rfl, rfl⟩ rfl rfl rfl rfl rfl (by kernel_rfl) Ybjm.func3 (by kernel_rfl)
    (of_decide_eq_true (by kernel_rfl)) (by unfold Func.isWrapper; first | (rw [if_pos (by decide +kernel)]; kernel_rfl) | (rw [if_neg (by decide +kernel)]; exact ⟨rfl, rfl⟩))
    (fun os started H enc _ => lifted os started H enc)

end Go.Proofs.Ymbrbj.PIMember
namespace Go.Proofs.Ymbrbj
/-- THE STATEMENT. -/
theorem proved_IMember : Rows.LawS930006IMemberSaid := PIMember.over
end Go.Proofs.Ymbrbj
