/- A fact of the program's form: liftsFinal. -/
import Derived.Test.YtokhjhkicledmaaRows
import Derived.Test.YtokhjhkicledmaaProg
import Derived.KernelRfl
namespace Go.Proofs.Ytokhjhkicledmaa
set_option maxRecDepth 100000
theorem joined2 : (Try.pinned).checked.prog.liftsFinal = Rows.fnExactClosureGenusRow.lifted := by kernel_rfl
end Go.Proofs.Ytokhjhkicledmaa
