/-
  No cell of these rows narrows 'for every input' (looked for: loops, veiled, ifaces, maps, wideKeys, modest, calm, conditions, laid).
  DERIVED. THE GIVEN ROWS OF THIS SEAT. 12 by the template 'for every input the law returns true; each argument reads behind the call as it read before'; 0 by the template 'total and deterministic' (their statements: YmbrbjTotals.lean).
  GIVEN WITH THE SEED: the statements are not yours to turn. If you find one false, say at which input.
  Laid BY PROGRAM, IN A SANDBOX (cutbox-rows.mjs): the forced cells as the released guide's own fill.sh prints them over the translation a78779c60f0ef068… (all of the seat's roots in one cut). By AI agents, Wed Nov 11 2026. No macro, syntax, notation, axiom, sorry.
-/
import Derived.Test.YmbrbjChecked
import GoSem.Claim
import GoSem.ClaimJoined
import GoSem.ClaimMapViews
import Derived.JoinedTies
import Derived.KernelRfl
namespace Go.Proofs.Ymbrbj
/- THE CELL 'sum', in the pinned program and in every row, IS THE sha256 OF THE DUMP (.gsa) THAT YmbrbjProg.lean LOADS. Nothing in Lean hashes anything: it is a label: what it is worth is what the hold of that sum in a sandbox is worth. -/
noncomputable def Ybjm.pinned : Pinned := { name := "ymbrbj", sum := "a78779c60f0ef0680e38584d91bd3fc23f32998d0c1673f9d4e6cb6fc4670df8", checked := Ybjm.checked }
namespace Rows
def none {H : Type} : Left H := { results := [], args := [] }

/-- 'interval.LawS930006IMember': WHATEVER THE INPUT: true; the input reads as it did. -/
def lawS930006IMemberSpec : ChangeSpec := { name := "lawS930006IMember", fn := fun _ => fun
  | [d1, d2] => { results := [.lit (.bool true)], args := [d1, d2] }
  | _ => none }
def lawS930006IMemberRow : OpenClaim := { program := "ymbrbj", sum := "a78779c60f0ef0680e38584d91bd3fc23f32998d0c1673f9d4e6cb6fc4670df8", func := "example.com/own/interval.LawS930006IMember", spec := "lawS930006IMember", apart := false }
def LawS930006IMemberSaid : Prop := lawS930006IMemberRow.holds Ybjm.pinned (OpenSpec.ofChange lawS930006IMemberSpec)

/-- ITS FALSE NEIGHBOUR: 'it returns false'. Refute it at one input. -/
def lawS930006IMemberWrong : ChangeSpec := { name := "lawS930006IMember", fn := fun _ => fun
  | [d1, d2] => { results := [.lit (.bool false)], args := [d1, d2] }
  | _ => none }
def LawS930006IMemberWrongFalsely : Prop := lawS930006IMemberRow.holds Ybjm.pinned (OpenSpec.ofChange lawS930006IMemberWrong)

/-- 'interval.LawS930006ICanonical': WHATEVER THE INPUT: true; the input reads as it did. -/
def lawS930006ICanonicalSpec : ChangeSpec := { name := "lawS930006ICanonical", fn := fun _ => fun
  | [d] => { results := [.lit (.bool true)], args := [d] }
  | _ => none }
def lawS930006ICanonicalRow : OpenClaim := { program := "ymbrbj", sum := "a78779c60f0ef0680e38584d91bd3fc23f32998d0c1673f9d4e6cb6fc4670df8", func := "example.com/own/interval.LawS930006ICanonical", spec := "lawS930006ICanonical", apart := false }
def LawS930006ICanonicalSaid : Prop := lawS930006ICanonicalRow.holds Ybjm.pinned (OpenSpec.ofChange lawS930006ICanonicalSpec)

/-- ITS FALSE NEIGHBOUR: 'it returns false'. Refute it at one input. -/
def lawS930006ICanonicalWrong : ChangeSpec := { name := "lawS930006ICanonical", fn := fun _ => fun
  | [d] => { results := [.lit (.bool false)], args := [d] }
  | _ => none }
def LawS930006ICanonicalWrongFalsely : Prop := lawS930006ICanonicalRow.holds Ybjm.pinned (OpenSpec.ofChange lawS930006ICanonicalWrong)

/-- 'interval.LawS930006IOrder': WHATEVER THE INPUT: true; the input reads as it did. -/
def lawS930006IOrderSpec : ChangeSpec := { name := "lawS930006IOrder", fn := fun _ => fun
  | [d] => { results := [.lit (.bool true)], args := [d] }
  | _ => none }
def lawS930006IOrderRow : OpenClaim := { program := "ymbrbj", sum := "a78779c60f0ef0680e38584d91bd3fc23f32998d0c1673f9d4e6cb6fc4670df8", func := "example.com/own/interval.LawS930006IOrder", spec := "lawS930006IOrder", apart := false }
def LawS930006IOrderSaid : Prop := lawS930006IOrderRow.holds Ybjm.pinned (OpenSpec.ofChange lawS930006IOrderSpec)

/-- ITS FALSE NEIGHBOUR: 'it returns false'. Refute it at one input. -/
def lawS930006IOrderWrong : ChangeSpec := { name := "lawS930006IOrder", fn := fun _ => fun
  | [d] => { results := [.lit (.bool false)], args := [d] }
  | _ => none }
def LawS930006IOrderWrongFalsely : Prop := lawS930006IOrderRow.holds Ybjm.pinned (OpenSpec.ofChange lawS930006IOrderWrong)

/-- 'interval.LawS930006JCells': WHATEVER THE INPUT: true; the input reads as it did. -/
def lawS930006JCellsSpec : ChangeSpec := { name := "lawS930006JCells", fn := fun _ => fun
  | [d1, d2, d3] => { results := [.lit (.bool true)], args := [d1, d2, d3] }
  | _ => none }
def lawS930006JCellsRow : OpenClaim := { program := "ymbrbj", sum := "a78779c60f0ef0680e38584d91bd3fc23f32998d0c1673f9d4e6cb6fc4670df8", func := "example.com/own/interval.LawS930006JCells", spec := "lawS930006JCells", apart := false }
def LawS930006JCellsSaid : Prop := lawS930006JCellsRow.holds Ybjm.pinned (OpenSpec.ofChange lawS930006JCellsSpec)

/-- ITS FALSE NEIGHBOUR: 'it returns false'. Refute it at one input. -/
def lawS930006JCellsWrong : ChangeSpec := { name := "lawS930006JCells", fn := fun _ => fun
  | [d1, d2, d3] => { results := [.lit (.bool false)], args := [d1, d2, d3] }
  | _ => none }
def LawS930006JCellsWrongFalsely : Prop := lawS930006JCellsRow.holds Ybjm.pinned (OpenSpec.ofChange lawS930006JCellsWrong)

/-- 'interval.LawS930006JRanked': WHATEVER THE INPUT: true; the input reads as it did. -/
def lawS930006JRankedSpec : ChangeSpec := { name := "lawS930006JRanked", fn := fun _ => fun
  | [d1, d2] => { results := [.lit (.bool true)], args := [d1, d2] }
  | _ => none }
def lawS930006JRankedRow : OpenClaim := { program := "ymbrbj", sum := "a78779c60f0ef0680e38584d91bd3fc23f32998d0c1673f9d4e6cb6fc4670df8", func := "example.com/own/interval.LawS930006JRanked", spec := "lawS930006JRanked", apart := false }
def LawS930006JRankedSaid : Prop := lawS930006JRankedRow.holds Ybjm.pinned (OpenSpec.ofChange lawS930006JRankedSpec)

/-- ITS FALSE NEIGHBOUR: 'it returns false'. Refute it at one input. -/
def lawS930006JRankedWrong : ChangeSpec := { name := "lawS930006JRanked", fn := fun _ => fun
  | [d1, d2] => { results := [.lit (.bool false)], args := [d1, d2] }
  | _ => none }
def LawS930006JRankedWrongFalsely : Prop := lawS930006JRankedRow.holds Ybjm.pinned (OpenSpec.ofChange lawS930006JRankedWrong)

/-- 'interval.LawS930006JCeiling': WHATEVER THE INPUT: true; the input reads as it did. -/
def lawS930006JCeilingSpec : ChangeSpec := { name := "lawS930006JCeiling", fn := fun _ => fun
  | [d1, d2] => { results := [.lit (.bool true)], args := [d1, d2] }
  | _ => none }
def lawS930006JCeilingRow : OpenClaim := { program := "ymbrbj", sum := "a78779c60f0ef0680e38584d91bd3fc23f32998d0c1673f9d4e6cb6fc4670df8", func := "example.com/own/interval.LawS930006JCeiling", spec := "lawS930006JCeiling", apart := false }
def LawS930006JCeilingSaid : Prop := lawS930006JCeilingRow.holds Ybjm.pinned (OpenSpec.ofChange lawS930006JCeilingSpec)

/-- ITS FALSE NEIGHBOUR: 'it returns false'. Refute it at one input. -/
def lawS930006JCeilingWrong : ChangeSpec := { name := "lawS930006JCeiling", fn := fun _ => fun
  | [d1, d2] => { results := [.lit (.bool false)], args := [d1, d2] }
  | _ => none }
def LawS930006JCeilingWrongFalsely : Prop := lawS930006JCeilingRow.holds Ybjm.pinned (OpenSpec.ofChange lawS930006JCeilingWrong)

/-- 'interval.LawS930006KEndpoints': WHATEVER THE INPUT: true; the input reads as it did. -/
def lawS930006KEndpointsSpec : ChangeSpec := { name := "lawS930006KEndpoints", fn := fun _ => fun
  | [d] => { results := [.lit (.bool true)], args := [d] }
  | _ => none }
def lawS930006KEndpointsRow : OpenClaim := { program := "ymbrbj", sum := "a78779c60f0ef0680e38584d91bd3fc23f32998d0c1673f9d4e6cb6fc4670df8", func := "example.com/own/interval.LawS930006KEndpoints", spec := "lawS930006KEndpoints", apart := false }
def LawS930006KEndpointsSaid : Prop := lawS930006KEndpointsRow.holds Ybjm.pinned (OpenSpec.ofChange lawS930006KEndpointsSpec)

/-- ITS FALSE NEIGHBOUR: 'it returns false'. Refute it at one input. -/
def lawS930006KEndpointsWrong : ChangeSpec := { name := "lawS930006KEndpoints", fn := fun _ => fun
  | [d] => { results := [.lit (.bool false)], args := [d] }
  | _ => none }
def LawS930006KEndpointsWrongFalsely : Prop := lawS930006KEndpointsRow.holds Ybjm.pinned (OpenSpec.ofChange lawS930006KEndpointsWrong)

/-- 'interval.LawS930006KBuilt': WHATEVER THE INPUT: true; the input reads as it did. -/
def lawS930006KBuiltSpec : ChangeSpec := { name := "lawS930006KBuilt", fn := fun _ => fun
  | [d1, d2] => { results := [.lit (.bool true)], args := [d1, d2] }
  | _ => none }
def lawS930006KBuiltRow : OpenClaim := { program := "ymbrbj", sum := "a78779c60f0ef0680e38584d91bd3fc23f32998d0c1673f9d4e6cb6fc4670df8", func := "example.com/own/interval.LawS930006KBuilt", spec := "lawS930006KBuilt", apart := false }
def LawS930006KBuiltSaid : Prop := lawS930006KBuiltRow.holds Ybjm.pinned (OpenSpec.ofChange lawS930006KBuiltSpec)

/-- ITS FALSE NEIGHBOUR: 'it returns false'. Refute it at one input. -/
def lawS930006KBuiltWrong : ChangeSpec := { name := "lawS930006KBuilt", fn := fun _ => fun
  | [d1, d2] => { results := [.lit (.bool false)], args := [d1, d2] }
  | _ => none }
def LawS930006KBuiltWrongFalsely : Prop := lawS930006KBuiltRow.holds Ybjm.pinned (OpenSpec.ofChange lawS930006KBuiltWrong)

/-- 'interval.LawS930006KPushed': WHATEVER THE INPUT: true; the input reads as it did. -/
def lawS930006KPushedSpec : ChangeSpec := { name := "lawS930006KPushed", fn := fun _ => fun
  | [d1, d2] => { results := [.lit (.bool true)], args := [d1, d2] }
  | _ => none }
def lawS930006KPushedRow : OpenClaim := { program := "ymbrbj", sum := "a78779c60f0ef0680e38584d91bd3fc23f32998d0c1673f9d4e6cb6fc4670df8", func := "example.com/own/interval.LawS930006KPushed", spec := "lawS930006KPushed", apart := false }
def LawS930006KPushedSaid : Prop := lawS930006KPushedRow.holds Ybjm.pinned (OpenSpec.ofChange lawS930006KPushedSpec)

/-- ITS FALSE NEIGHBOUR: 'it returns false'. Refute it at one input. -/
def lawS930006KPushedWrong : ChangeSpec := { name := "lawS930006KPushed", fn := fun _ => fun
  | [d1, d2] => { results := [.lit (.bool false)], args := [d1, d2] }
  | _ => none }
def LawS930006KPushedWrongFalsely : Prop := lawS930006KPushedRow.holds Ybjm.pinned (OpenSpec.ofChange lawS930006KPushedWrong)

/-- 'interval.LawS930006LMembers': WHATEVER THE INPUT: true; the input reads as it did. -/
def lawS930006LMembersSpec : ChangeSpec := { name := "lawS930006LMembers", fn := fun _ => fun
  | [d] => { results := [.lit (.bool true)], args := [d] }
  | _ => none }
def lawS930006LMembersRow : OpenClaim := { program := "ymbrbj", sum := "a78779c60f0ef0680e38584d91bd3fc23f32998d0c1673f9d4e6cb6fc4670df8", func := "example.com/own/interval.LawS930006LMembers", spec := "lawS930006LMembers", apart := false }
def LawS930006LMembersSaid : Prop := lawS930006LMembersRow.holds Ybjm.pinned (OpenSpec.ofChange lawS930006LMembersSpec)

/-- ITS FALSE NEIGHBOUR: 'it returns false'. Refute it at one input. -/
def lawS930006LMembersWrong : ChangeSpec := { name := "lawS930006LMembers", fn := fun _ => fun
  | [d] => { results := [.lit (.bool false)], args := [d] }
  | _ => none }
def LawS930006LMembersWrongFalsely : Prop := lawS930006LMembersRow.holds Ybjm.pinned (OpenSpec.ofChange lawS930006LMembersWrong)

/-- 'interval.LawS930006LAdd': WHATEVER THE INPUT: true; the input reads as it did. -/
def lawS930006LAddSpec : ChangeSpec := { name := "lawS930006LAdd", fn := fun _ => fun
  | [d1, d2, d3] => { results := [.lit (.bool true)], args := [d1, d2, d3] }
  | _ => none }
def lawS930006LAddRow : OpenClaim := { program := "ymbrbj", sum := "a78779c60f0ef0680e38584d91bd3fc23f32998d0c1673f9d4e6cb6fc4670df8", func := "example.com/own/interval.LawS930006LAdd", spec := "lawS930006LAdd", apart := false }
def LawS930006LAddSaid : Prop := lawS930006LAddRow.holds Ybjm.pinned (OpenSpec.ofChange lawS930006LAddSpec)

/-- ITS FALSE NEIGHBOUR: 'it returns false'. Refute it at one input. -/
def lawS930006LAddWrong : ChangeSpec := { name := "lawS930006LAdd", fn := fun _ => fun
  | [d1, d2, d3] => { results := [.lit (.bool false)], args := [d1, d2, d3] }
  | _ => none }
def LawS930006LAddWrongFalsely : Prop := lawS930006LAddRow.holds Ybjm.pinned (OpenSpec.ofChange lawS930006LAddWrong)

/-- 'interval.LawS930006LSelect': WHATEVER THE INPUT: true; the input reads as it did. -/
def lawS930006LSelectSpec : ChangeSpec := { name := "lawS930006LSelect", fn := fun _ => fun
  | [d1, d2] => { results := [.lit (.bool true)], args := [d1, d2] }
  | _ => none }
def lawS930006LSelectRow : OpenClaim := { program := "ymbrbj", sum := "a78779c60f0ef0680e38584d91bd3fc23f32998d0c1673f9d4e6cb6fc4670df8", func := "example.com/own/interval.LawS930006LSelect", spec := "lawS930006LSelect", apart := false }
def LawS930006LSelectSaid : Prop := lawS930006LSelectRow.holds Ybjm.pinned (OpenSpec.ofChange lawS930006LSelectSpec)

/-- ITS FALSE NEIGHBOUR: 'it returns false'. Refute it at one input. -/
def lawS930006LSelectWrong : ChangeSpec := { name := "lawS930006LSelect", fn := fun _ => fun
  | [d1, d2] => { results := [.lit (.bool false)], args := [d1, d2] }
  | _ => none }
def LawS930006LSelectWrongFalsely : Prop := lawS930006LSelectRow.holds Ybjm.pinned (OpenSpec.ofChange lawS930006LSelectWrong)

end Rows
end Go.Proofs.Ymbrbj
