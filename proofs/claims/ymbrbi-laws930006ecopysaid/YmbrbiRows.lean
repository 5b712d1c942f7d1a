/-
  No cell of these rows narrows 'for every input' (looked for: loops, veiled, ifaces, maps, wideKeys, modest, calm, conditions, laid).
  DERIVED. THE GIVEN ROWS OF THIS SEAT. 12 by the template 'for every input the law returns true; each argument reads behind the call as it read before'; 0 by the template 'total and deterministic' (their statements: YmbrbiTotals.lean).
  GIVEN WITH THE SEED: the statements are not yours to turn. If you find one false, say at which input.
  Laid BY PROGRAM, IN A SANDBOX (cutbox-rows.mjs): the forced cells as the released guide's own fill.sh prints them over the translation 837dadfaee4892bf… (all of the seat's roots in one cut). By AI agents, Wed Nov 11 2026. No macro, syntax, notation, axiom, sorry.
-/
import Derived.Test.YmbrbiChecked
import GoSem.Claim
import GoSem.ClaimJoined
import GoSem.ClaimMapViews
import Derived.JoinedTies
import Derived.KernelRfl
namespace Go.Proofs.Ymbrbi
/- THE CELL 'sum', in the pinned program and in every row, IS THE sha256 OF THE DUMP (.gsa) THAT YmbrbiProg.lean LOADS. Nothing in Lean hashes anything: it is a label: what it is worth is what the hold of that sum in a sandbox is worth. -/
noncomputable def Ybim.pinned : Pinned := { name := "ymbrbi", sum := "837dadfaee4892bfcca7083f3096eb2d34fa34a12e671c5b4cf8b0d11ceb85bd", checked := Ybim.checked }
namespace Rows
def none {H : Type} : Left H := { results := [], args := [] }

/-- 'interval.LawS930006ECopy': WHATEVER THE INPUT: true; the input reads as it did. -/
def lawS930006ECopySpec : ChangeSpec := { name := "lawS930006ECopy", fn := fun _ => fun
  | [d] => { results := [.lit (.bool true)], args := [d] }
  | _ => none }
def lawS930006ECopyRow : OpenClaim := { program := "ymbrbi", sum := "837dadfaee4892bfcca7083f3096eb2d34fa34a12e671c5b4cf8b0d11ceb85bd", func := "example.com/own/interval.LawS930006ECopy", spec := "lawS930006ECopy", apart := false }
def LawS930006ECopySaid : Prop := lawS930006ECopyRow.holds Ybim.pinned (OpenSpec.ofChange lawS930006ECopySpec)

/-- ITS FALSE NEIGHBOUR: 'it returns false'. Refute it at one input. -/
def lawS930006ECopyWrong : ChangeSpec := { name := "lawS930006ECopy", fn := fun _ => fun
  | [d] => { results := [.lit (.bool false)], args := [d] }
  | _ => none }
def LawS930006ECopyWrongFalsely : Prop := lawS930006ECopyRow.holds Ybim.pinned (OpenSpec.ofChange lawS930006ECopyWrong)

/-- 'interval.LawS930006ERoundTrip': WHATEVER THE INPUT: true; the input reads as it did. -/
def lawS930006ERoundTripSpec : ChangeSpec := { name := "lawS930006ERoundTrip", fn := fun _ => fun
  | [d1, d2] => { results := [.lit (.bool true)], args := [d1, d2] }
  | _ => none }
def lawS930006ERoundTripRow : OpenClaim := { program := "ymbrbi", sum := "837dadfaee4892bfcca7083f3096eb2d34fa34a12e671c5b4cf8b0d11ceb85bd", func := "example.com/own/interval.LawS930006ERoundTrip", spec := "lawS930006ERoundTrip", apart := false }
def LawS930006ERoundTripSaid : Prop := lawS930006ERoundTripRow.holds Ybim.pinned (OpenSpec.ofChange lawS930006ERoundTripSpec)

/-- ITS FALSE NEIGHBOUR: 'it returns false'. Refute it at one input. -/
def lawS930006ERoundTripWrong : ChangeSpec := { name := "lawS930006ERoundTrip", fn := fun _ => fun
  | [d1, d2] => { results := [.lit (.bool false)], args := [d1, d2] }
  | _ => none }
def LawS930006ERoundTripWrongFalsely : Prop := lawS930006ERoundTripRow.holds Ybim.pinned (OpenSpec.ofChange lawS930006ERoundTripWrong)

/-- 'interval.LawS930006EUnion': WHATEVER THE INPUT: true; the input reads as it did. -/
def lawS930006EUnionSpec : ChangeSpec := { name := "lawS930006EUnion", fn := fun _ => fun
  | [d1, d2] => { results := [.lit (.bool true)], args := [d1, d2] }
  | _ => none }
def lawS930006EUnionRow : OpenClaim := { program := "ymbrbi", sum := "837dadfaee4892bfcca7083f3096eb2d34fa34a12e671c5b4cf8b0d11ceb85bd", func := "example.com/own/interval.LawS930006EUnion", spec := "lawS930006EUnion", apart := false }
def LawS930006EUnionSaid : Prop := lawS930006EUnionRow.holds Ybim.pinned (OpenSpec.ofChange lawS930006EUnionSpec)

/-- ITS FALSE NEIGHBOUR: 'it returns false'. Refute it at one input. -/
def lawS930006EUnionWrong : ChangeSpec := { name := "lawS930006EUnion", fn := fun _ => fun
  | [d1, d2] => { results := [.lit (.bool false)], args := [d1, d2] }
  | _ => none }
def LawS930006EUnionWrongFalsely : Prop := lawS930006EUnionRow.holds Ybim.pinned (OpenSpec.ofChange lawS930006EUnionWrong)

/-- 'interval.LawS930006FCount': WHATEVER THE INPUT: true; the input reads as it did. -/
def lawS930006FCountSpec : ChangeSpec := { name := "lawS930006FCount", fn := fun _ => fun
  | [d1, d2] => { results := [.lit (.bool true)], args := [d1, d2] }
  | _ => none }
def lawS930006FCountRow : OpenClaim := { program := "ymbrbi", sum := "837dadfaee4892bfcca7083f3096eb2d34fa34a12e671c5b4cf8b0d11ceb85bd", func := "example.com/own/interval.LawS930006FCount", spec := "lawS930006FCount", apart := false }
def LawS930006FCountSaid : Prop := lawS930006FCountRow.holds Ybim.pinned (OpenSpec.ofChange lawS930006FCountSpec)

/-- ITS FALSE NEIGHBOUR: 'it returns false'. Refute it at one input. -/
def lawS930006FCountWrong : ChangeSpec := { name := "lawS930006FCount", fn := fun _ => fun
  | [d1, d2] => { results := [.lit (.bool false)], args := [d1, d2] }
  | _ => none }
def LawS930006FCountWrongFalsely : Prop := lawS930006FCountRow.holds Ybim.pinned (OpenSpec.ofChange lawS930006FCountWrong)

/-- 'interval.LawS930006FStep': WHATEVER THE INPUT: true; the input reads as it did. -/
def lawS930006FStepSpec : ChangeSpec := { name := "lawS930006FStep", fn := fun _ => fun
  | [d1, d2] => { results := [.lit (.bool true)], args := [d1, d2] }
  | _ => none }
def lawS930006FStepRow : OpenClaim := { program := "ymbrbi", sum := "837dadfaee4892bfcca7083f3096eb2d34fa34a12e671c5b4cf8b0d11ceb85bd", func := "example.com/own/interval.LawS930006FStep", spec := "lawS930006FStep", apart := false }
def LawS930006FStepSaid : Prop := lawS930006FStepRow.holds Ybim.pinned (OpenSpec.ofChange lawS930006FStepSpec)

/-- ITS FALSE NEIGHBOUR: 'it returns false'. Refute it at one input. -/
def lawS930006FStepWrong : ChangeSpec := { name := "lawS930006FStep", fn := fun _ => fun
  | [d1, d2] => { results := [.lit (.bool false)], args := [d1, d2] }
  | _ => none }
def LawS930006FStepWrongFalsely : Prop := lawS930006FStepRow.holds Ybim.pinned (OpenSpec.ofChange lawS930006FStepWrong)

/-- 'interval.LawS930006FSelect': WHATEVER THE INPUT: true; the input reads as it did. -/
def lawS930006FSelectSpec : ChangeSpec := { name := "lawS930006FSelect", fn := fun _ => fun
  | [d1, d2, d3] => { results := [.lit (.bool true)], args := [d1, d2, d3] }
  | _ => none }
def lawS930006FSelectRow : OpenClaim := { program := "ymbrbi", sum := "837dadfaee4892bfcca7083f3096eb2d34fa34a12e671c5b4cf8b0d11ceb85bd", func := "example.com/own/interval.LawS930006FSelect", spec := "lawS930006FSelect", apart := false }
def LawS930006FSelectSaid : Prop := lawS930006FSelectRow.holds Ybim.pinned (OpenSpec.ofChange lawS930006FSelectSpec)

/-- ITS FALSE NEIGHBOUR: 'it returns false'. Refute it at one input. -/
def lawS930006FSelectWrong : ChangeSpec := { name := "lawS930006FSelect", fn := fun _ => fun
  | [d1, d2, d3] => { results := [.lit (.bool false)], args := [d1, d2, d3] }
  | _ => none }
def LawS930006FSelectWrongFalsely : Prop := lawS930006FSelectRow.holds Ybim.pinned (OpenSpec.ofChange lawS930006FSelectWrong)

/-- 'interval.LawS930006GMembers': WHATEVER THE INPUT: true; the input reads as it did. -/
def lawS930006GMembersSpec : ChangeSpec := { name := "lawS930006GMembers", fn := fun _ => fun
  | [d1, d2, d3, d4] => { results := [.lit (.bool true)], args := [d1, d2, d3, d4] }
  | _ => none }
def lawS930006GMembersRow : OpenClaim := { program := "ymbrbi", sum := "837dadfaee4892bfcca7083f3096eb2d34fa34a12e671c5b4cf8b0d11ceb85bd", func := "example.com/own/interval.LawS930006GMembers", spec := "lawS930006GMembers", apart := false }
def LawS930006GMembersSaid : Prop := lawS930006GMembersRow.holds Ybim.pinned (OpenSpec.ofChange lawS930006GMembersSpec)

/-- ITS FALSE NEIGHBOUR: 'it returns false'. Refute it at one input. -/
def lawS930006GMembersWrong : ChangeSpec := { name := "lawS930006GMembers", fn := fun _ => fun
  | [d1, d2, d3, d4] => { results := [.lit (.bool false)], args := [d1, d2, d3, d4] }
  | _ => none }
def LawS930006GMembersWrongFalsely : Prop := lawS930006GMembersRow.holds Ybim.pinned (OpenSpec.ofChange lawS930006GMembersWrong)

/-- 'interval.LawS930006GCanonical': WHATEVER THE INPUT: true; the input reads as it did. -/
def lawS930006GCanonicalSpec : ChangeSpec := { name := "lawS930006GCanonical", fn := fun _ => fun
  | [d1, d2, d3] => { results := [.lit (.bool true)], args := [d1, d2, d3] }
  | _ => none }
def lawS930006GCanonicalRow : OpenClaim := { program := "ymbrbi", sum := "837dadfaee4892bfcca7083f3096eb2d34fa34a12e671c5b4cf8b0d11ceb85bd", func := "example.com/own/interval.LawS930006GCanonical", spec := "lawS930006GCanonical", apart := false }
def LawS930006GCanonicalSaid : Prop := lawS930006GCanonicalRow.holds Ybim.pinned (OpenSpec.ofChange lawS930006GCanonicalSpec)

/-- ITS FALSE NEIGHBOUR: 'it returns false'. Refute it at one input. -/
def lawS930006GCanonicalWrong : ChangeSpec := { name := "lawS930006GCanonical", fn := fun _ => fun
  | [d1, d2, d3] => { results := [.lit (.bool false)], args := [d1, d2, d3] }
  | _ => none }
def LawS930006GCanonicalWrongFalsely : Prop := lawS930006GCanonicalRow.holds Ybim.pinned (OpenSpec.ofChange lawS930006GCanonicalWrong)

/-- 'interval.LawS930006GAdd': WHATEVER THE INPUT: true; the input reads as it did. -/
def lawS930006GAddSpec : ChangeSpec := { name := "lawS930006GAdd", fn := fun _ => fun
  | [d1, d2, d3] => { results := [.lit (.bool true)], args := [d1, d2, d3] }
  | _ => none }
def lawS930006GAddRow : OpenClaim := { program := "ymbrbi", sum := "837dadfaee4892bfcca7083f3096eb2d34fa34a12e671c5b4cf8b0d11ceb85bd", func := "example.com/own/interval.LawS930006GAdd", spec := "lawS930006GAdd", apart := false }
def LawS930006GAddSaid : Prop := lawS930006GAddRow.holds Ybim.pinned (OpenSpec.ofChange lawS930006GAddSpec)

/-- ITS FALSE NEIGHBOUR: 'it returns false'. Refute it at one input. -/
def lawS930006GAddWrong : ChangeSpec := { name := "lawS930006GAdd", fn := fun _ => fun
  | [d1, d2, d3] => { results := [.lit (.bool false)], args := [d1, d2, d3] }
  | _ => none }
def LawS930006GAddWrongFalsely : Prop := lawS930006GAddRow.holds Ybim.pinned (OpenSpec.ofChange lawS930006GAddWrong)

/-- 'interval.LawS930006HMember': WHATEVER THE INPUT: true; the input reads as it did. -/
def lawS930006HMemberSpec : ChangeSpec := { name := "lawS930006HMember", fn := fun _ => fun
  | [d1, d2, d3] => { results := [.lit (.bool true)], args := [d1, d2, d3] }
  | _ => none }
def lawS930006HMemberRow : OpenClaim := { program := "ymbrbi", sum := "837dadfaee4892bfcca7083f3096eb2d34fa34a12e671c5b4cf8b0d11ceb85bd", func := "example.com/own/interval.LawS930006HMember", spec := "lawS930006HMember", apart := false }
def LawS930006HMemberSaid : Prop := lawS930006HMemberRow.holds Ybim.pinned (OpenSpec.ofChange lawS930006HMemberSpec)

/-- ITS FALSE NEIGHBOUR: 'it returns false'. Refute it at one input. -/
def lawS930006HMemberWrong : ChangeSpec := { name := "lawS930006HMember", fn := fun _ => fun
  | [d1, d2, d3] => { results := [.lit (.bool false)], args := [d1, d2, d3] }
  | _ => none }
def LawS930006HMemberWrongFalsely : Prop := lawS930006HMemberRow.holds Ybim.pinned (OpenSpec.ofChange lawS930006HMemberWrong)

/-- 'interval.LawS930006HPairs': WHATEVER THE INPUT: true; the input reads as it did. -/
def lawS930006HPairsSpec : ChangeSpec := { name := "lawS930006HPairs", fn := fun _ => fun
  | [d1, d2] => { results := [.lit (.bool true)], args := [d1, d2] }
  | _ => none }
def lawS930006HPairsRow : OpenClaim := { program := "ymbrbi", sum := "837dadfaee4892bfcca7083f3096eb2d34fa34a12e671c5b4cf8b0d11ceb85bd", func := "example.com/own/interval.LawS930006HPairs", spec := "lawS930006HPairs", apart := false }
def LawS930006HPairsSaid : Prop := lawS930006HPairsRow.holds Ybim.pinned (OpenSpec.ofChange lawS930006HPairsSpec)

/-- ITS FALSE NEIGHBOUR: 'it returns false'. Refute it at one input. -/
def lawS930006HPairsWrong : ChangeSpec := { name := "lawS930006HPairs", fn := fun _ => fun
  | [d1, d2] => { results := [.lit (.bool false)], args := [d1, d2] }
  | _ => none }
def LawS930006HPairsWrongFalsely : Prop := lawS930006HPairsRow.holds Ybim.pinned (OpenSpec.ofChange lawS930006HPairsWrong)

/-- 'interval.LawS930006HCanonical': WHATEVER THE INPUT: true; the input reads as it did. -/
def lawS930006HCanonicalSpec : ChangeSpec := { name := "lawS930006HCanonical", fn := fun _ => fun
  | [d1, d2] => { results := [.lit (.bool true)], args := [d1, d2] }
  | _ => none }
def lawS930006HCanonicalRow : OpenClaim := { program := "ymbrbi", sum := "837dadfaee4892bfcca7083f3096eb2d34fa34a12e671c5b4cf8b0d11ceb85bd", func := "example.com/own/interval.LawS930006HCanonical", spec := "lawS930006HCanonical", apart := false }
def LawS930006HCanonicalSaid : Prop := lawS930006HCanonicalRow.holds Ybim.pinned (OpenSpec.ofChange lawS930006HCanonicalSpec)

/-- ITS FALSE NEIGHBOUR: 'it returns false'. Refute it at one input. -/
def lawS930006HCanonicalWrong : ChangeSpec := { name := "lawS930006HCanonical", fn := fun _ => fun
  | [d1, d2] => { results := [.lit (.bool false)], args := [d1, d2] }
  | _ => none }
def LawS930006HCanonicalWrongFalsely : Prop := lawS930006HCanonicalRow.holds Ybim.pinned (OpenSpec.ofChange lawS930006HCanonicalWrong)

end Rows
end Go.Proofs.Ymbrbi
