import Derived.Test.YtakpeibmaejmeaaL14
/- Morphisms: the list of them. -/
namespace Go.Proofs.Ytakpeibmaejmeaa
open Go.RowKit DM
set_option linter.unusedVariables false

/-- The morphisms that lead 0 to a number below k. -/
def morL (b w b' w' : Nat → Nat) : Nat → List (Nat → Int)
  | 0 => []
  | k + 1 => match morF b w b' w' k with
    | none => morL b w b' w' k
    | some o => morL b w b' w' k ++ [o]

theorem morL_none {b w b' w' : Nat → Nat} {k : Nat} (h : morF b w b' w' k = none) : morL b w b' w' (k + 1) = morL b w b' w' k := by simp only [morL, h]
theorem morL_some {b w b' w' : Nat → Nat} {k : Nat} {o : Nat → Int} (h : morF b w b' w' k = some o) : morL b w b' w' (k + 1) = morL b w b' w' k ++ [o] := by simp only [morL, h]
theorem morL_len (b w b' w' : Nat → Nat) : ∀ k, (morL b w b' w' k).length ≤ k
  | 0 => Nat.le_refl _
  | k + 1 => by
    have := morL_len b w b' w' k
    simp only [morL]; split
    · omega
    · simp; omega

end Go.Proofs.Ytakpeibmaejmeaa
