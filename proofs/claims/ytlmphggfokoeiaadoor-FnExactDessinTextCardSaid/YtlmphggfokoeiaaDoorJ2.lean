/- A fact of the program's form: liftsFinal. -/
import Derived.Test.YtlmphggfokoeiaaDoorRows
import Derived.Test.YtlmphggfokoeiaaDoorProg
import Derived.KernelRfl
namespace Go.Proofs.YtlmphggfokoeiaaDoor
set_option maxRecDepth 100000
theorem joined2 : (Tryd.pinned).checked.prog.liftsFinal = Rows.fnExactDessinTextRow.lifted := by kernel_rfl
end Go.Proofs.YtlmphggfokoeiaaDoor
