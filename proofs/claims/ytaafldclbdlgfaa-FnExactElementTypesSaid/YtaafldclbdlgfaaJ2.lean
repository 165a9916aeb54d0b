/- A fact of the program's form: liftsFinal. -/
import Derived.Test.YtaafldclbdlgfaaRows
import Derived.Test.YtaafldclbdlgfaaProg
import Derived.KernelRfl
namespace Go.Proofs.Ytaafldclbdlgfaa
set_option maxRecDepth 100000
theorem joined2 : (Try.pinned).checked.prog.liftsFinal = Rows.fnExactBlocksOfRow.lifted := by kernel_rfl
end Go.Proofs.Ytaafldclbdlgfaa
