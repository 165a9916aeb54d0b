/- A fact of the program's form: mayEnter. -/
import Derived.Test.YtakpeibmaejmeaaRows
import Derived.Test.YtakpeibmaejmeaaProg
import Derived.KernelRfl
namespace Go.Proofs.Ytakpeibmaejmeaa
set_option maxRecDepth 100000
theorem joined1 : (Try.pinned).checked.prog.mayEnter = true := by kernel_rfl
end Go.Proofs.Ytakpeibmaejmeaa
