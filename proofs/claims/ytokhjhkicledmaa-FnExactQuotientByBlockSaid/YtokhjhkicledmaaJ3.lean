/- A fact of the program's form: make. -/
import Derived.Test.YtokhjhkicledmaaRows
import Derived.Test.YtokhjhkicledmaaProg
import Derived.KernelRfl
namespace Go.Proofs.Ytokhjhkicledmaa
set_option maxRecDepth 100000
theorem joined3 : (Try.pinned).checked.prog.make = some Rows.fnExactClosureGenusRow.make := by kernel_rfl
end Go.Proofs.Ytokhjhkicledmaa
