/- A fact of the program's form: make. -/
import Derived.Test.YtlmphggfokoeiaaDoorRows
import Derived.Test.YtlmphggfokoeiaaDoorProg
import Derived.KernelRfl
namespace Go.Proofs.YtlmphggfokoeiaaDoor
set_option maxRecDepth 100000
theorem joined3 : (Tryd.pinned).checked.prog.make = some Rows.fnExactDessinTextRow.make := by kernel_rfl
end Go.Proofs.YtlmphggfokoeiaaDoor
