/- A fact of the program's form: mayEnter. -/
import Derived.Test.YtlmphggfokoeiaaDoorRows
import Derived.Test.YtlmphggfokoeiaaDoorProg
import Derived.KernelRfl
namespace Go.Proofs.YtlmphggfokoeiaaDoor
set_option maxRecDepth 100000
theorem joined1 : (Tryd.pinned).checked.prog.mayEnter = true := by kernel_rfl
end Go.Proofs.YtlmphggfokoeiaaDoor
