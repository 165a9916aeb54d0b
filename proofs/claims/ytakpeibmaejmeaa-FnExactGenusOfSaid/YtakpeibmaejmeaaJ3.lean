/- A fact of the program's form: make. -/
import Derived.Test.YtakpeibmaejmeaaRows
import Derived.Test.YtakpeibmaejmeaaProg
import Derived.KernelRfl
namespace Go.Proofs.Ytakpeibmaejmeaa
set_option maxRecDepth 100000
theorem joined3 : (Try.pinned).checked.prog.make = some Rows.fnExactAutomorphismsOfRow.make := by kernel_rfl
end Go.Proofs.Ytakpeibmaejmeaa
