import Derived.Test.YtaafldclbdlgfaaL3
import Derived.Test.YtaafldclbdlgfaaX3
import Derived.Test.YtaafldclbdlgfaaX9
import Derived.Test.YtaafldclbdlgfaaX4
/- Even dessins; the Face permutation: both sides; the laws. -/
namespace Go.Proofs.Ytaafldclbdlgfaa
open Go.RowKit DM
set_option linter.unusedSimpArgs false
set_option linter.unusedVariables false
set_option maxRecDepth 100000
set_option maxHeartbeats 1000000

/-! ### Faces -/
theorem Perm.then {N : Nat} {p q : Nat → Nat} (hp : Perm N p) (hq : Perm N q) : ∀ i, i < N → fillF (fun i => q (p i)) N i < N := fun i hi => by
  unfold fillF; rw [if_pos hi]; exact hq.lt _ (hp.lt _ hi)

end Go.Proofs.Ytaafldclbdlgfaa
