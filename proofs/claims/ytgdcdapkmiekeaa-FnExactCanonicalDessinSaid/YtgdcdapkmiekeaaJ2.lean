/- A fact of the program's form: liftsFinal. -/
import Derived.Test.YtgdcdapkmiekeaaRows
import Derived.Test.YtgdcdapkmiekeaaProg
import Derived.KernelRfl
namespace Go.Proofs.Ytgdcdapkmiekeaa
set_option maxRecDepth 100000
theorem joined2 : (Try.pinned).checked.prog.liftsFinal = Rows.fnExactAutomorphismsOfRow.lifted := by kernel_rfl
end Go.Proofs.Ytgdcdapkmiekeaa
