import Derived.Test.YtakpeibmaejmeaaL9
import Derived.Test.YtakpeibmaejmeaaL10
import Derived.Test.YtakpeibmaejmeaaD22
import Derived.Test.YtakpeibmaejmeaaL3
import Derived.Test.YtakpeibmaejmeaaX2
import Derived.Test.YtakpeibmaejmeaaX3
import Derived.Test.YtakpeibmaejmeaaX13
/- Quotients: the program's public function. -/
namespace Go.Proofs.Ytakpeibmaejmeaa
open Go.RowKit DM
set_option linter.unusedSimpArgs false
set_option linter.unusedVariables false
set_option maxRecDepth 100000
set_option maxHeartbeats 1000000

/-- Two arrays of sixteen numbers: equal or not. -/
def eq16 (f g : Nat → Nat) : Nat → Nat → Bool
  | _, 0 => true
  | i, n + 1 => decide ((f i : Int) = (g i : Int)) && eq16 f g (i + 1) n
def eqDs (n : Int) (b w : Nat → Nat) (n' : Int) (b' w' : Nat → Nat) : Bool := decide (n = n') && (eq16 b b' 0 16 && (eq16 w w' 0 16 && true))

theorem eq16_get {f g : Nat → Nat} : ∀ {n i : Nat}, eq16 f g i n = true → ∀ j, j < n → f (i + j) = g (i + j)
  | 0, i, _, j, hj => absurd hj (Nat.not_lt_zero _)
  | n + 1, i, h, 0, _ => by
    simp only [eq16, Bool.and_eq_true, decide_eq_true_eq] at h
    exact_mod_cast h.1
  | n + 1, i, h, j + 1, hj => by
    simp only [eq16, Bool.and_eq_true, decide_eq_true_eq] at h
    have := eq16_get h.2 j (by omega)
    rwa [show i + 1 + j = i + (j + 1) by omega] at this

theorem renTo_at {N : Nat} {p : Nat → Nat} (hp : Perm N p) (b : Nat → Nat) : ∀ k, k ≤ N → ∀ x, x < k → renTo p b k (p x) = p (b x)
  | 0, _, x, h => absurd h (Nat.not_lt_zero _)
  | k + 1, hk, x, h => by
    simp only [renTo, up]
    by_cases e : x = k
    · subst e; rw [if_pos rfl]
    · rw [if_neg fun e2 => e (hp.inj x k (by omega) (by omega) e2)]
      exact renTo_at hp b k (by omega) x (by omega)

end Go.Proofs.Ytakpeibmaejmeaa
