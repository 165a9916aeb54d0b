/- A fact of the program's form: mayEnter. -/
import Derived.Test.YtgdcdapkmiekeaaRows
import Derived.Test.YtgdcdapkmiekeaaProg
import Derived.KernelRfl
namespace Go.Proofs.Ytgdcdapkmiekeaa
set_option maxRecDepth 100000
theorem joined1 : (Try.pinned).checked.prog.mayEnter = true := by kernel_rfl
end Go.Proofs.Ytgdcdapkmiekeaa
