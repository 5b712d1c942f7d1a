import Derived.Test.YmbrbjProg
import Derived.Test.YmbrbjBase
namespace Go.Proofs.Ymbrbj

/-- The one field of a Set that is a value. -/
theorem run_spans (a : Option Addr) (n c : Nat) (w : World) : (Instr.field 24 (.agg #[.slice a n c]) 0).run Ybjm.prog w = .ok (.slice a n c) w := by kernel_rfl

end Go.Proofs.Ymbrbj
