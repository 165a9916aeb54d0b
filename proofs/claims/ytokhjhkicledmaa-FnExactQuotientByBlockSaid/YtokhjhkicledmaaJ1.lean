/- A fact of the program's form: mayEnter. -/
import Derived.Test.YtokhjhkicledmaaRows
import Derived.Test.YtokhjhkicledmaaProg
import Derived.KernelRfl
namespace Go.Proofs.Ytokhjhkicledmaa
set_option maxRecDepth 100000
theorem joined1 : (Try.pinned).checked.prog.mayEnter = true := by kernel_rfl
end Go.Proofs.Ytokhjhkicledmaa
