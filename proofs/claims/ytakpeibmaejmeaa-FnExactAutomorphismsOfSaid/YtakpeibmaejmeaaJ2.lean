/- A fact of the program's form: liftsFinal. -/
import Derived.Test.YtakpeibmaejmeaaRows
import Derived.Test.YtakpeibmaejmeaaProg
import Derived.KernelRfl
namespace Go.Proofs.Ytakpeibmaejmeaa
set_option maxRecDepth 100000
theorem joined2 : (Try.pinned).checked.prog.liftsFinal = Rows.fnExactAutomorphismsOfRow.lifted := by kernel_rfl
end Go.Proofs.Ytakpeibmaejmeaa
