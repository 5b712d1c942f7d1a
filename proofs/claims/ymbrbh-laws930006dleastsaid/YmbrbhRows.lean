/-
  No cell of these rows narrows 'for every input' (looked for: loops, veiled, ifaces, maps, wideKeys, modest, calm, conditions, laid).
  DERIVED. THE GIVEN ROWS OF THIS SEAT. 12 by the template 'for every input the law returns true; each argument reads behind the call as it read before'; 0 by the template 'total and deterministic' (their statements: YmbrbhTotals.lean).
  GIVEN WITH THE SEED: the statements are not yours to turn. If you find one false, say at which input.
  Laid BY PROGRAM, IN A SANDBOX (cutbox-rows.mjs): the forced cells as the released guide's own fill.sh prints them over the translation 8aff6e4e7e771c70… (all of the seat's roots in one cut). By AI agents, Wed Nov 11 2026. No macro, syntax, notation, axiom, sorry.
-/
import Derived.Test.YmbrbhChecked
import GoSem.Claim
import GoSem.ClaimJoined
import GoSem.ClaimMapViews
import Derived.JoinedTies
import Derived.KernelRfl
namespace Go.Proofs.Ymbrbh
/- THE CELL 'sum', in the pinned program and in every row, IS THE sha256 OF THE DUMP (.gsa) THAT YmbrbhProg.lean LOADS. Nothing in Lean hashes anything: it is a label: what it is worth is what the hold of that sum in a sandbox is worth. -/
noncomputable def Ybhm.pinned : Pinned := { name := "ymbrbh", sum := "8aff6e4e7e771c7037984f6409aef21870ee9b9de52a1abeac1334b5368d59b0", checked := Ybhm.checked }
namespace Rows
def none {H : Type} : Left H := { results := [], args := [] }

/-- 'interval.LawS930006AMembers': WHATEVER THE INPUT: true; the input reads as it did. -/
def lawS930006AMembersSpec : ChangeSpec := { name := "lawS930006AMembers", fn := fun _ => fun
  | [d1, d2, d3, d4, d5] => { results := [.lit (.bool true)], args := [d1, d2, d3, d4, d5] }
  | _ => none }
def lawS930006AMembersRow : OpenClaim := { program := "ymbrbh", sum := "8aff6e4e7e771c7037984f6409aef21870ee9b9de52a1abeac1334b5368d59b0", func := "example.com/own/interval.LawS930006AMembers", spec := "lawS930006AMembers", apart := false }
def LawS930006AMembersSaid : Prop := lawS930006AMembersRow.holds Ybhm.pinned (OpenSpec.ofChange lawS930006AMembersSpec)

/-- ITS FALSE NEIGHBOUR: 'it returns false'. Refute it at one input. -/
def lawS930006AMembersWrong : ChangeSpec := { name := "lawS930006AMembers", fn := fun _ => fun
  | [d1, d2, d3, d4, d5] => { results := [.lit (.bool false)], args := [d1, d2, d3, d4, d5] }
  | _ => none }
def LawS930006AMembersWrongFalsely : Prop := lawS930006AMembersRow.holds Ybhm.pinned (OpenSpec.ofChange lawS930006AMembersWrong)

/-- 'interval.LawS930006ACanonical': WHATEVER THE INPUT: true; the input reads as it did. -/
def lawS930006ACanonicalSpec : ChangeSpec := { name := "lawS930006ACanonical", fn := fun _ => fun
  | [d1, d2, d3, d4] => { results := [.lit (.bool true)], args := [d1, d2, d3, d4] }
  | _ => none }
def lawS930006ACanonicalRow : OpenClaim := { program := "ymbrbh", sum := "8aff6e4e7e771c7037984f6409aef21870ee9b9de52a1abeac1334b5368d59b0", func := "example.com/own/interval.LawS930006ACanonical", spec := "lawS930006ACanonical", apart := false }
def LawS930006ACanonicalSaid : Prop := lawS930006ACanonicalRow.holds Ybhm.pinned (OpenSpec.ofChange lawS930006ACanonicalSpec)

/-- ITS FALSE NEIGHBOUR: 'it returns false'. Refute it at one input. -/
def lawS930006ACanonicalWrong : ChangeSpec := { name := "lawS930006ACanonical", fn := fun _ => fun
  | [d1, d2, d3, d4] => { results := [.lit (.bool false)], args := [d1, d2, d3, d4] }
  | _ => none }
def LawS930006ACanonicalWrongFalsely : Prop := lawS930006ACanonicalRow.holds Ybhm.pinned (OpenSpec.ofChange lawS930006ACanonicalWrong)

/-- 'interval.LawS930006APieces': WHATEVER THE INPUT: true; the input reads as it did. -/
def lawS930006APiecesSpec : ChangeSpec := { name := "lawS930006APieces", fn := fun _ => fun
  | [d1, d2, d3, d4] => { results := [.lit (.bool true)], args := [d1, d2, d3, d4] }
  | _ => none }
def lawS930006APiecesRow : OpenClaim := { program := "ymbrbh", sum := "8aff6e4e7e771c7037984f6409aef21870ee9b9de52a1abeac1334b5368d59b0", func := "example.com/own/interval.LawS930006APieces", spec := "lawS930006APieces", apart := false }
def LawS930006APiecesSaid : Prop := lawS930006APiecesRow.holds Ybhm.pinned (OpenSpec.ofChange lawS930006APiecesSpec)

/-- ITS FALSE NEIGHBOUR: 'it returns false'. Refute it at one input. -/
def lawS930006APiecesWrong : ChangeSpec := { name := "lawS930006APieces", fn := fun _ => fun
  | [d1, d2, d3, d4] => { results := [.lit (.bool false)], args := [d1, d2, d3, d4] }
  | _ => none }
def LawS930006APiecesWrongFalsely : Prop := lawS930006APiecesRow.holds Ybhm.pinned (OpenSpec.ofChange lawS930006APiecesWrong)

/-- 'interval.LawS930006BMember': WHATEVER THE INPUT: true; the input reads as it did. -/
def lawS930006BMemberSpec : ChangeSpec := { name := "lawS930006BMember", fn := fun _ => fun
  | [d1, d2, d3] => { results := [.lit (.bool true)], args := [d1, d2, d3] }
  | _ => none }
def lawS930006BMemberRow : OpenClaim := { program := "ymbrbh", sum := "8aff6e4e7e771c7037984f6409aef21870ee9b9de52a1abeac1334b5368d59b0", func := "example.com/own/interval.LawS930006BMember", spec := "lawS930006BMember", apart := false }
def LawS930006BMemberSaid : Prop := lawS930006BMemberRow.holds Ybhm.pinned (OpenSpec.ofChange lawS930006BMemberSpec)

/-- ITS FALSE NEIGHBOUR: 'it returns false'. Refute it at one input. -/
def lawS930006BMemberWrong : ChangeSpec := { name := "lawS930006BMember", fn := fun _ => fun
  | [d1, d2, d3] => { results := [.lit (.bool false)], args := [d1, d2, d3] }
  | _ => none }
def LawS930006BMemberWrongFalsely : Prop := lawS930006BMemberRow.holds Ybhm.pinned (OpenSpec.ofChange lawS930006BMemberWrong)

/-- 'interval.LawS930006BCanon': WHATEVER THE INPUT: true; the input reads as it did. -/
def lawS930006BCanonSpec : ChangeSpec := { name := "lawS930006BCanon", fn := fun _ => fun
  | [d1, d2] => { results := [.lit (.bool true)], args := [d1, d2] }
  | _ => none }
def lawS930006BCanonRow : OpenClaim := { program := "ymbrbh", sum := "8aff6e4e7e771c7037984f6409aef21870ee9b9de52a1abeac1334b5368d59b0", func := "example.com/own/interval.LawS930006BCanon", spec := "lawS930006BCanon", apart := false }
def LawS930006BCanonSaid : Prop := lawS930006BCanonRow.holds Ybhm.pinned (OpenSpec.ofChange lawS930006BCanonSpec)

/-- ITS FALSE NEIGHBOUR: 'it returns false'. Refute it at one input. -/
def lawS930006BCanonWrong : ChangeSpec := { name := "lawS930006BCanon", fn := fun _ => fun
  | [d1, d2] => { results := [.lit (.bool false)], args := [d1, d2] }
  | _ => none }
def LawS930006BCanonWrongFalsely : Prop := lawS930006BCanonRow.holds Ybhm.pinned (OpenSpec.ofChange lawS930006BCanonWrong)

/-- 'interval.LawS930006BFold': WHATEVER THE INPUT: true; the input reads as it did. -/
def lawS930006BFoldSpec : ChangeSpec := { name := "lawS930006BFold", fn := fun _ => fun
  | [d1, d2] => { results := [.lit (.bool true)], args := [d1, d2] }
  | _ => none }
def lawS930006BFoldRow : OpenClaim := { program := "ymbrbh", sum := "8aff6e4e7e771c7037984f6409aef21870ee9b9de52a1abeac1334b5368d59b0", func := "example.com/own/interval.LawS930006BFold", spec := "lawS930006BFold", apart := false }
def LawS930006BFoldSaid : Prop := lawS930006BFoldRow.holds Ybhm.pinned (OpenSpec.ofChange lawS930006BFoldSpec)

/-- ITS FALSE NEIGHBOUR: 'it returns false'. Refute it at one input. -/
def lawS930006BFoldWrong : ChangeSpec := { name := "lawS930006BFold", fn := fun _ => fun
  | [d1, d2] => { results := [.lit (.bool false)], args := [d1, d2] }
  | _ => none }
def LawS930006BFoldWrongFalsely : Prop := lawS930006BFoldRow.holds Ybhm.pinned (OpenSpec.ofChange lawS930006BFoldWrong)

/-- 'interval.LawS930006CExact': WHATEVER THE INPUT: true; the input reads as it did. -/
def lawS930006CExactSpec : ChangeSpec := { name := "lawS930006CExact", fn := fun _ => fun
  | [d1, d2] => { results := [.lit (.bool true)], args := [d1, d2] }
  | _ => none }
def lawS930006CExactRow : OpenClaim := { program := "ymbrbh", sum := "8aff6e4e7e771c7037984f6409aef21870ee9b9de52a1abeac1334b5368d59b0", func := "example.com/own/interval.LawS930006CExact", spec := "lawS930006CExact", apart := false }
def LawS930006CExactSaid : Prop := lawS930006CExactRow.holds Ybhm.pinned (OpenSpec.ofChange lawS930006CExactSpec)

/-- ITS FALSE NEIGHBOUR: 'it returns false'. Refute it at one input. -/
def lawS930006CExactWrong : ChangeSpec := { name := "lawS930006CExact", fn := fun _ => fun
  | [d1, d2] => { results := [.lit (.bool false)], args := [d1, d2] }
  | _ => none }
def LawS930006CExactWrongFalsely : Prop := lawS930006CExactRow.holds Ybhm.pinned (OpenSpec.ofChange lawS930006CExactWrong)

/-- 'interval.LawS930006COffset': WHATEVER THE INPUT: true; the input reads as it did. -/
def lawS930006COffsetSpec : ChangeSpec := { name := "lawS930006COffset", fn := fun _ => fun
  | [d1, d2] => { results := [.lit (.bool true)], args := [d1, d2] }
  | _ => none }
def lawS930006COffsetRow : OpenClaim := { program := "ymbrbh", sum := "8aff6e4e7e771c7037984f6409aef21870ee9b9de52a1abeac1334b5368d59b0", func := "example.com/own/interval.LawS930006COffset", spec := "lawS930006COffset", apart := false }
def LawS930006COffsetSaid : Prop := lawS930006COffsetRow.holds Ybhm.pinned (OpenSpec.ofChange lawS930006COffsetSpec)

/-- ITS FALSE NEIGHBOUR: 'it returns false'. Refute it at one input. -/
def lawS930006COffsetWrong : ChangeSpec := { name := "lawS930006COffset", fn := fun _ => fun
  | [d1, d2] => { results := [.lit (.bool false)], args := [d1, d2] }
  | _ => none }
def LawS930006COffsetWrongFalsely : Prop := lawS930006COffsetRow.holds Ybhm.pinned (OpenSpec.ofChange lawS930006COffsetWrong)

/-- 'interval.LawS930006CSplit': WHATEVER THE INPUT: true; the input reads as it did. -/
def lawS930006CSplitSpec : ChangeSpec := { name := "lawS930006CSplit", fn := fun _ => fun
  | [d1, d2, d3] => { results := [.lit (.bool true)], args := [d1, d2, d3] }
  | _ => none }
def lawS930006CSplitRow : OpenClaim := { program := "ymbrbh", sum := "8aff6e4e7e771c7037984f6409aef21870ee9b9de52a1abeac1334b5368d59b0", func := "example.com/own/interval.LawS930006CSplit", spec := "lawS930006CSplit", apart := false }
def LawS930006CSplitSaid : Prop := lawS930006CSplitRow.holds Ybhm.pinned (OpenSpec.ofChange lawS930006CSplitSpec)

/-- ITS FALSE NEIGHBOUR: 'it returns false'. Refute it at one input. -/
def lawS930006CSplitWrong : ChangeSpec := { name := "lawS930006CSplit", fn := fun _ => fun
  | [d1, d2, d3] => { results := [.lit (.bool false)], args := [d1, d2, d3] }
  | _ => none }
def LawS930006CSplitWrongFalsely : Prop := lawS930006CSplitRow.holds Ybhm.pinned (OpenSpec.ofChange lawS930006CSplitWrong)

/-- 'interval.LawS930006DLeast': WHATEVER THE INPUT: true; the input reads as it did. -/
def lawS930006DLeastSpec : ChangeSpec := { name := "lawS930006DLeast", fn := fun _ => fun
  | [d1, d2] => { results := [.lit (.bool true)], args := [d1, d2] }
  | _ => none }
def lawS930006DLeastRow : OpenClaim := { program := "ymbrbh", sum := "8aff6e4e7e771c7037984f6409aef21870ee9b9de52a1abeac1334b5368d59b0", func := "example.com/own/interval.LawS930006DLeast", spec := "lawS930006DLeast", apart := false }
def LawS930006DLeastSaid : Prop := lawS930006DLeastRow.holds Ybhm.pinned (OpenSpec.ofChange lawS930006DLeastSpec)

/-- ITS FALSE NEIGHBOUR: 'it returns false'. Refute it at one input. -/
def lawS930006DLeastWrong : ChangeSpec := { name := "lawS930006DLeast", fn := fun _ => fun
  | [d1, d2] => { results := [.lit (.bool false)], args := [d1, d2] }
  | _ => none }
def LawS930006DLeastWrongFalsely : Prop := lawS930006DLeastRow.holds Ybhm.pinned (OpenSpec.ofChange lawS930006DLeastWrong)

/-- 'interval.LawS930006DEdges': WHATEVER THE INPUT: true; the input reads as it did. -/
def lawS930006DEdgesSpec : ChangeSpec := { name := "lawS930006DEdges", fn := fun _ => fun
  | [d1, d2] => { results := [.lit (.bool true)], args := [d1, d2] }
  | _ => none }
def lawS930006DEdgesRow : OpenClaim := { program := "ymbrbh", sum := "8aff6e4e7e771c7037984f6409aef21870ee9b9de52a1abeac1334b5368d59b0", func := "example.com/own/interval.LawS930006DEdges", spec := "lawS930006DEdges", apart := false }
def LawS930006DEdgesSaid : Prop := lawS930006DEdgesRow.holds Ybhm.pinned (OpenSpec.ofChange lawS930006DEdgesSpec)

/-- ITS FALSE NEIGHBOUR: 'it returns false'. Refute it at one input. -/
def lawS930006DEdgesWrong : ChangeSpec := { name := "lawS930006DEdges", fn := fun _ => fun
  | [d1, d2] => { results := [.lit (.bool false)], args := [d1, d2] }
  | _ => none }
def LawS930006DEdgesWrongFalsely : Prop := lawS930006DEdgesRow.holds Ybhm.pinned (OpenSpec.ofChange lawS930006DEdgesWrong)

/-- 'interval.LawS930006DCut': WHATEVER THE INPUT: true; the input reads as it did. -/
def lawS930006DCutSpec : ChangeSpec := { name := "lawS930006DCut", fn := fun _ => fun
  | [d1, d2] => { results := [.lit (.bool true)], args := [d1, d2] }
  | _ => none }
def lawS930006DCutRow : OpenClaim := { program := "ymbrbh", sum := "8aff6e4e7e771c7037984f6409aef21870ee9b9de52a1abeac1334b5368d59b0", func := "example.com/own/interval.LawS930006DCut", spec := "lawS930006DCut", apart := false }
def LawS930006DCutSaid : Prop := lawS930006DCutRow.holds Ybhm.pinned (OpenSpec.ofChange lawS930006DCutSpec)

/-- ITS FALSE NEIGHBOUR: 'it returns false'. Refute it at one input. -/
def lawS930006DCutWrong : ChangeSpec := { name := "lawS930006DCut", fn := fun _ => fun
  | [d1, d2] => { results := [.lit (.bool false)], args := [d1, d2] }
  | _ => none }
def LawS930006DCutWrongFalsely : Prop := lawS930006DCutRow.holds Ybhm.pinned (OpenSpec.ofChange lawS930006DCutWrong)

end Rows
end Go.Proofs.Ymbrbh
