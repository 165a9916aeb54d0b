/- A fact of the program's form: mayEnter. -/
import Derived.Test.YtaafldclbdlgfaaRows
import Derived.Test.YtaafldclbdlgfaaProg
import Derived.KernelRfl
namespace Go.Proofs.Ytaafldclbdlgfaa
set_option maxRecDepth 100000
theorem joined1 : (Try.pinned).checked.prog.mayEnter = true := by kernel_rfl
end Go.Proofs.Ytaafldclbdlgfaa
