/-
  'Rows.LawS930006ECopySaid': THE ROW's STEP (the kit's own shell, turned to this law's parameters). The walk: YmbrbiWECopy.lean.
-/
import Derived.Test.YmbrbiRows
import Derived.Test.YmbrbiOpen
import Derived.Test.YmbrbiWECopy
import Derived.WalkKit
import Derived.ProofKit
import Derived.OpenShut
import Derived.ShutString
import Derived.ChangeOld
import Derived.Below
namespace Go.Proofs.Ymbrbi.PECopy
open Go.ChangeShapes Go.WideShapes Go.ChangeAt Go.RowKit
set_option linter.unusedVariables false

theorem own : ownKnob Ybim.prog.godebug = none := by kernel_rfl
theorem laidOut : laidOutB Ybim.prog = true := by kernel_rfl

set_option maxRecDepth 100000 in
theorem lifted (os : Os) (started : os.Started) (H : Type) (enc : TypeId × Value → H) :
    ReturnsInHanded {} Ybim.checked os 3 .any (Rows.lawS930006ECopySpec.pre6 enc Ybim.prog Ybim.f3 Rows.lawS930006ECopyRow.domain false) (Rows.lawS930006ECopySpec.post enc Ybim.prog Ybim.f3 false true false false) := by
  refine returnsInHanded_of_change (C := Ybim.checked) own started (by kernel_rfl) Ybim.func3
    (ChangeSpec.witness6 (enc := enc) (C := Ybim.checked) false ⟨#[], #[.slice none 0 0], []⟩ 8 (by kernel_rfl) (by kernel_rfl) (by kernel_rfl) (by kernel_rfl)) ?_
  intro W base args ds gs before hval0 hW hcnd _
  have hval : ∀ (j : Nat) t v, Ybim.f3.params[j]? = some t → args[j]? = some v → Value.okWide Ybim.prog W .any base t v := hval0
  have hW' := hW
  obtain ⟨p, q, hA0, hV, rfl, hfz, hnd⟩ := hW
  have hA : DataW.TrodAll enc Ybim.prog W 0 (fun _ => true) true Ybim.f3.params.toList args.toList ds p := hA0
  rw [Ybim.params3] at hA hval
  obtain ⟨v0, vs0, d0, ds0, p0, q0, hargs, rfl, rfl, h0, r0⟩ := trodAll_cons hA
  obtain ⟨rfl, rfl, rfl⟩ := trodAll_nil r0
  obtain rfl : args = #[v0] := by cases args; simp_all
  obtain ⟨rfl, rfl⟩ := trodVars_none hV
  have k0 := h0
  have lt0 : ∀ x ∈ p0, x.block < W.heap.size := by obtain ⟨m, hm⟩ := k0; exact DataW.trod_lt m _ _ _ hm
  obtain ⟨b0, n0, c0, e0⟩ := okWide_slice Ybim.underlying22 (hval 0 22 v0 rfl rfl)
  obtain ⟨m0, g0⟩ := h0
  obtain ⟨L0, s0, y0⟩ := sl_of_trod Ybim.underlying22 Ybim.underlying26 (by kernel_rfl) rfl rfl (by kernel_rfl) (by kernel_rfl) Ybim.underlying2 Ybim.underlying2 b0 n0 c0 e0 g0
  clear hA0 hval0
  refine (walk_ECopy v0 L0 W s0 y0).mono fun e W' ⟨he, bel⟩ => ?_
  subst he
  exact ⟨_, rfl, _, _, _, [], _, [], hW', trodAll_mk1 (shut_bool Ybim.underlying4 _), (trodAll_cons_mk (Below.trod laidOut (by kernel_rfl) (of_decide_eq_true (by kernel_rfl)) k0 bel lt0) trodAll_mk0), rfl, bel.frame _, fun h => by cases h⟩

theorem over : Rows.lawS930006ECopyRow.holds Ybim.pinned (OpenSpec.ofChange Rows.lawS930006ECopySpec) :=
  OpenClaim.holds_of_wide 3 Ybim.f3 rfl rfl rfl rfl rfl rfl rfl ⟨rfl, rfl, rfl, rfl, rfl⟩ rfl rfl rfl rfl rfl (by kernel_rfl) Ybim.func3 (by kernel_rfl)
    (of_decide_eq_true (by kernel_rfl)) (by unfold Func.isWrapper; first | (rw [if_pos (by decide +kernel)]; kernel_rfl) | (rw [if_neg (by decide +kernel)]; exact ⟨rfl, rfl⟩))
    (fun os started H enc _ => lifted os started H enc)

end Go.Proofs.Ymbrbi.PECopy
namespace Go.Proofs.Ymbrbi
/-- THE STATEMENT. -/
theorem proved_ECopy : Rows.LawS930006ECopySaid := PECopy.over
end Go.Proofs.Ymbrbi
