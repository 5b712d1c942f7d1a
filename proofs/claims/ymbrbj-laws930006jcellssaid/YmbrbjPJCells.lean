/-
  'Rows.LawS930006JCellsSaid': THE ROW's STEP (the kit's own shell, turned to this law's parameters). The walk: YmbrbjWJCells.lean.
-/
import Derived.Test.YmbrbjRows
import Derived.Test.YmbrbjOpen
import Derived.Test.YmbrbjWJCells
import Derived.WalkKit
import Derived.ProofKit
import Derived.OpenShut
import Derived.ShutString
import Derived.ChangeOld
import Derived.Below
namespace Go.Proofs.Ymbrbj.PJCells
open Go.ChangeShapes Go.WideShapes Go.ChangeAt Go.RowKit
set_option linter.unusedVariables false

theorem own : ownKnob Ybjm.prog.godebug = none := by kernel_rfl
theorem laidOut : laidOutB Ybjm.prog = true := by kernel_rfl

set_option maxRecDepth 100000 in
theorem lifted (os : Os) (started : os.Started) (H : Type) (enc : TypeId × Value → H) :
    ReturnsInHanded {} Ybjm.checked os 6 .any (Rows.lawS930006JCellsSpec.pre6 enc Ybjm.prog Ybjm.f6 Rows.lawS930006JCellsRow.domain false) (Rows.lawS930006JCellsSpec.post enc Ybjm.prog Ybjm.f6 false true false false) := by
  refine returnsInHanded_of_change (C := Ybjm.checked) own started (by kernel_rfl) Ybjm.func6
    (ChangeSpec.witness6 (enc := enc) (C := Ybjm.checked) false ⟨#[], #[.slice none 0 0, .int .i64 0, .int .u64 0], []⟩ 8 (by kernel_rfl) (by kernel_rfl) (by kernel_rfl) (by kernel_rfl)) ?_
  intro W base args ds gs before hval0 hW hcnd _
  have hval : ∀ (j : Nat) t v, Ybjm.f6.params[j]? = some t → args[j]? = some v → Value.okWide Ybjm.prog W .any base t v := hval0
  have hW' := hW
  obtain ⟨p, q, hA0, hV, rfl, hfz, hnd⟩ := hW
  have hA : DataW.TrodAll enc Ybjm.prog W 0 (fun _ => true) true Ybjm.f6.params.toList args.toList ds p := hA0
  rw [Ybjm.params6] at hA hval
  obtain ⟨v0, vs0, d0, ds0, p0, q0, hargs, rfl, rfl, h0, r0⟩ := trodAll_cons hA
  obtain ⟨v1, vs1, d1, ds1, p1, q1, rfl, rfl, rfl, h1, r1⟩ := trodAll_cons r0
  obtain ⟨v2, vs2, d2, ds2, p2, q2, rfl, rfl, rfl, h2, r2⟩ := trodAll_cons r1
  obtain ⟨rfl, rfl, rfl⟩ := trodAll_nil r2
  obtain rfl : args = #[v0, v1, v2] := by cases args; simp_all
  obtain ⟨rfl, rfl⟩ := trodVars_none hV
  have k0 := h0
  have lt0 : ∀ x ∈ p0, x.block < W.heap.size := by obtain ⟨m, hm⟩ := k0; exact DataW.trod_lt m _ _ _ hm
  obtain ⟨b0, n0, c0, e0⟩ := okWide_slice Ybjm.underlying31 (hval 0 31 v0 rfl rfl)
  obtain ⟨m0, g0⟩ := h0
  obtain ⟨L0, s0⟩ := slb_of_trod Ybjm.underlying31 Ybjm.underlying4 (by kernel_rfl) b0 n0 c0 e0 g0
  obtain ⟨a1, rfl, rfl, rfl, w1⟩ := open_int Ybjm.underlying2 (hval 1 2 v1 rfl rfl) h1
  obtain ⟨a2, rfl, rfl, rfl, w2⟩ := open_int Ybjm.underlying32 (hval 2 32 v2 rfl rfl) h2
  clear hA0 hval0
  refine (walk_JCells v0 L0 a1 a2 W s0 w1 w2).mono fun e W' ⟨he, bel⟩ => ?_
  subst he
  exact ⟨_, rfl, _, _, _, [], _, [], hW', trodAll_mk1 (shut_bool Ybjm.underlying4 _), (trodAll_cons_mk (Below.trod laidOut (by kernel_rfl) (of_decide_eq_true (by kernel_rfl)) k0 bel lt0) (trodAll_cons_mk (shut_int Ybjm.underlying2 w1) (trodAll_cons_mk (shut_int Ybjm.underlying32 w2) trodAll_mk0))), rfl, bel.frame _, fun h => by cases h⟩

theorem over : Rows.lawS930006JCellsRow.holds Ybjm.pinned (OpenSpec.ofChange Rows.lawS930006JCellsSpec) :=
  OpenClaim.holds_of_wide 6 Ybjm.f6 rfl rfl rfl rfl rfl rfl rfl ⟨rfl, rfl, rfl, rfl, rfl⟩ rfl rfl rfl rfl rfl (by kernel_rfl) Ybjm.func6 (by kernel_rfl)
    (of_decide_eq_true (by kernel_rfl)) (by unfold Func.isWrapper; first | (rw [if_pos (by decide +kernel)]; kernel_rfl) | (rw [if_neg (by decide +kernel)]; exact ⟨rfl, rfl⟩))
    (fun os started H enc _ => lifted os started H enc)

end Go.Proofs.Ymbrbj.PJCells
namespace Go.Proofs.Ymbrbj
/-- THE STATEMENT. -/
theorem proved_JCells : Rows.LawS930006JCellsSaid := PJCells.over
end Go.Proofs.Ymbrbj
