/- A fact of the program's form: make. -/
import Derived.Test.YtaafldclbdlgfaaRows
import Derived.Test.YtaafldclbdlgfaaProg
import Derived.KernelRfl
namespace Go.Proofs.Ytaafldclbdlgfaa
set_option maxRecDepth 100000
theorem joined3 : (Try.pinned).checked.prog.make = some Rows.fnExactBlocksOfRow.make := by kernel_rfl
end Go.Proofs.Ytaafldclbdlgfaa
