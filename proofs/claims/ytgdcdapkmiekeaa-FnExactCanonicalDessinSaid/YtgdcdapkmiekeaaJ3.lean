/- A fact of the program's form: make. -/
import Derived.Test.YtgdcdapkmiekeaaRows
import Derived.Test.YtgdcdapkmiekeaaProg
import Derived.KernelRfl
namespace Go.Proofs.Ytgdcdapkmiekeaa
set_option maxRecDepth 100000
theorem joined3 : (Try.pinned).checked.prog.make = some Rows.fnExactAutomorphismsOfRow.make := by kernel_rfl
end Go.Proofs.Ytgdcdapkmiekeaa
