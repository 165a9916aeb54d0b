import Derived.Test.YtakapfgjdhliaaaD17
/- What comes behind: a piece of code that is reached by several ways is walked once. -/
namespace Go.Proofs.Ytakapfgjdhliaaa.DM
open Go.RowKit

/-- The code behind the first k parts. -/
def dropO : Nat → Code → Option Code
  | 0, c => some c
  | k + 1, .seq _ b => dropO k b
  | _ + 1, _ => none

theorem WP.share {P : Program} {N K : Nat} {Q : Exit → St → Prop} {s : St} (k : Nat) (s1 : St) {c d : Code} (hd : dropO k c = some d) (hr : WP P N K d Q s1) (h : WP P N K d Q s1 → WP P N K c Q s) : WP P N K c Q s := h hr
end Go.Proofs.Ytakapfgjdhliaaa.DM
