import Derived.Test.YtokhjhkicledmaaX86
/- Groups: the laws of the order, of membership and of regularity. -/
namespace Go.Proofs.Ytokhjhkicledmaa
open Go.RowKit DM
set_option linter.unusedSimpArgs false
set_option linter.unusedVariables false
set_option maxRecDepth 100000
set_option maxHeartbeats 1000000

theorem lim_z (p : Nat → Nat) : ∀ i, 16 ≤ i → lim p i = 0 := fun i hi => by unfold lim; rw [if_neg (by omega)]

end Go.Proofs.Ytokhjhkicledmaa
