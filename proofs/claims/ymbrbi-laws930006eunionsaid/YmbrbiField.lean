import Derived.Test.YmbrbiProg
import Derived.Test.YmbrbiBase
namespace Go.Proofs.Ymbrbi

/-- The one field of a Set that is a value. -/
theorem run_spans (a : Option Addr) (n c : Nat) (w : World) : (Instr.field 24 (.agg #[.slice a n c]) 0).run Ybim.prog w = .ok (.slice a n c) w := by kernel_rfl

end Go.Proofs.Ymbrbi
