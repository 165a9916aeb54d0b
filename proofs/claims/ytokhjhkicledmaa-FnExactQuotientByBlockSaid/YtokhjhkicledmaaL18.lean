import Derived.Test.YtokhjhkicledmaaL10
/- Parity: a permutation's numbers less its cycles. -/
namespace Go.Proofs.Ytokhjhkicledmaa
open Go.RowKit DM
set_option linter.unusedVariables false
set_option linter.unusedSimpArgs false

/-- p, k times. -/
def itF (p : Nat → Nat) : Nat → Nat → Nat
  | 0, x => x
  | k + 1, x => p (itF p k x)
theorem it_lt {n : Nat} {p : Nat → Nat} (hp : ∀ i, i < n → p i < n) {x : Nat} (hx : x < n) : ∀ k, itF p k x < n
  | 0 => hx
  | k + 1 => hp _ (it_lt hp hx k)
theorem it_add (p : Nat → Nat) (x : Nat) (j : Nat) : ∀ k, itF p (j + k) x = itF p k (itF p j x)
  | 0 => rfl
  | k + 1 => congrArg p (it_add p x j k)

end Go.Proofs.Ytokhjhkicledmaa
