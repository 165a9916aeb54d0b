import Derived.Test.YtakpeibmaejmeaaX53
/- MorphismsOf: the reference's side. -/
namespace Go.Proofs.Ytakpeibmaejmeaa
open Go.RowKit DM
set_option linter.unusedSimpArgs false
set_option linter.unusedVariables false
set_option maxRecDepth 100000
set_option maxHeartbeats 1000000

noncomputable def bothB (n : Int) (b w : Nat → Nat) (n' : Int) (b' w' : Nat → Nat) : Bool := desB n b w && desB n' b' w'

end Go.Proofs.Ytakpeibmaejmeaa
