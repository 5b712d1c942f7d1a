/-
  'Rows.LawS930006ERoundTripSaid': THE ROW's STEP (the kit's own shell, turned to this law's parameters). The walk: YmbrbiWERoundTrip.lean.
-/
import Derived.Test.YmbrbiRows
import Derived.Test.YmbrbiOpen
import Derived.Test.YmbrbiWERoundTrip
import Derived.WalkKit
import Derived.ProofKit
import Derived.OpenShut
import Derived.ShutString
import Derived.ChangeOld
import Derived.Below
namespace Go.Proofs.Ymbrbi.PERoundTrip
open Go.ChangeShapes Go.WideShapes Go.ChangeAt Go.RowKit
set_option linter.unusedVariables false

theorem own : ownKnob Ybim.prog.godebug = none := by kernel_rfl
theorem laidOut : laidOutB Ybim.prog = true := by kernel_rfl

set_option maxRecDepth 100000 in
theorem lifted (os : Os) (started : os.Started) (H : Type) (enc : TypeId × Value → H) :
    ReturnsInHanded {} Ybim.checked os 4 .any (Rows.lawS930006ERoundTripSpec.pre6 enc Ybim.prog Ybim.f4 Rows.lawS930006ERoundTripRow.domain false) (Rows.lawS930006ERoundTripSpec.post enc Ybim.prog Ybim.f4 false true false false) := by
  refine returnsInHanded_of_change (C := Ybim.checked) own started (by kernel_rfl) Ybim.func4
    (ChangeSpec.witness6 (enc := enc) (C := Ybim.checked) false ⟨#[], #[.int .i64 0, .slice none 0 0], []⟩ 8 (by kernel_rfl) (by kernel_rfl) (by kernel_rfl) (by kernel_rfl)) ?_
  intro W base args ds gs before hval0 hW hcnd _
  have hval : ∀ (j : Nat) t v, Ybim.f4.params[j]? = some t → args[j]? = some v → Value.okWide Ybim.prog W .any base t v := hval0
  have hW' := hW
  obtain ⟨p, q, hA0, hV, rfl, hfz, hnd⟩ := hW
  have hA : DataW.TrodAll enc Ybim.prog W 0 (fun _ => true) true Ybim.f4.params.toList args.toList ds p := hA0
  rw [Ybim.params4] at hA hval
  obtain ⟨v0, vs0, d0, ds0, p0, q0, hargs, rfl, rfl, h0, r0⟩ := trodAll_cons hA
  obtain ⟨v1, vs1, d1, ds1, p1, q1, rfl, rfl, rfl, h1, r1⟩ := trodAll_cons r0
  obtain ⟨rfl, rfl, rfl⟩ := trodAll_nil r1
  obtain rfl : args = #[v0, v1] := by cases args; simp_all
  obtain ⟨rfl, rfl⟩ := trodVars_none hV
  obtain ⟨a0, rfl, rfl, rfl, w0⟩ := open_int Ybim.underlying2 (hval 0 2 v0 rfl rfl) h0
  have k1 := h1
  have lt1 : ∀ x ∈ p1, x.block < W.heap.size := by obtain ⟨m, hm⟩ := k1; exact DataW.trod_lt m _ _ _ hm
  obtain ⟨b1, n1, c1, e1⟩ := okWide_slice Ybim.underlying30 (hval 1 30 v1 rfl rfl)
  obtain ⟨m1, g1⟩ := h1
  obtain ⟨L1, s1, y1⟩ := sl_of_trod Ybim.underlying30 Ybim.underlying33 (by kernel_rfl) rfl rfl (by kernel_rfl) (by kernel_rfl) Ybim.underlying31 Ybim.underlying31 b1 n1 c1 e1 g1
  clear hA0 hval0
  refine (walk_ERoundTrip a0 v1 L1 W w0 s1 y1).mono fun e W' ⟨he, bel⟩ => ?_
  subst he
  exact ⟨_, rfl, _, _, _, [], _, [], hW', trodAll_mk1 (shut_bool Ybim.underlying4 _), (trodAll_cons_mk (shut_int Ybim.underlying2 w0) (trodAll_cons_mk (Below.trod laidOut (by kernel_rfl) (of_decide_eq_true (by kernel_rfl)) k1 bel lt1) trodAll_mk0)), rfl, bel.frame _, fun h => by cases h⟩

theorem over : Rows.lawS930006ERoundTripRow.holds Ybim.pinned (OpenSpec.ofChange Rows.lawS930006ERoundTripSpec) :=
  OpenClaim.holds_of_wide 4 Ybim.f4 rfl rfl rfl rfl rfl rfl rfl ⟨rfl, rfl, rfl, rfl, rfl⟩ rfl rfl rfl rfl rfl (by kernel_rfl) Ybim.func4 (by kernel_rfl)
    (of_decide_eq_true (by kernel_rfl)) (by unfold Func.isWrapper; first | (rw [if_pos (by decide +kernel)]; kernel_rfl) | (rw [if_neg (by decide +kernel)]; exact ⟨rfl, rfl⟩))
    (fun os started H enc _ => lifted os started H enc)

end Go.Proofs.Ymbrbi.PERoundTrip
namespace Go.Proofs.Ymbrbi
/-- THE STATEMENT. -/
theorem proved_ERoundTrip : Rows.LawS930006ERoundTripSaid := PERoundTrip.over
end Go.Proofs.Ymbrbi
