import Derived.Test.YtakpeibmaejmeaaL11
import Derived.Test.YtakpeibmaejmeaaL9
import Derived.Test.YtakpeibmaejmeaaShelf
import Derived.Test.YtakpeibmaejmeaaL3
import Derived.Test.YtakpeibmaejmeaaD22
import Derived.Sort.OwnSortedInts
import Derived.Test.YtakpeibmaejmeaaX2
import Derived.Test.YtakpeibmaejmeaaX3
import Derived.Test.YtakpeibmaejmeaaX12
/- Passports: both sides. -/
namespace Go.Proofs.Ytakpeibmaejmeaa
open Go.RowKit DM
set_option linter.unusedSimpArgs false
set_option linter.unusedVariables false
set_option maxRecDepth 100000
set_option maxHeartbeats 1000000

theorem backTo_at {n : Nat} {p : Nat → Nat} (hp : Perm n p) : ∀ k, k ≤ n → ∀ x, x < k → backTo p k (p x) = x
  | 0, _, x, h => absurd h (Nat.not_lt_zero _)
  | k + 1, hk, x, h => by
    simp only [backTo, up]
    by_cases e : x = k
    · subst e; rw [if_pos rfl]
    · rw [if_neg fun e2 => e (hp.inj x k (by omega) (by omega) e2)]
      exact backTo_at hp k (by omega) x (by omega)

end Go.Proofs.Ytakpeibmaejmeaa
