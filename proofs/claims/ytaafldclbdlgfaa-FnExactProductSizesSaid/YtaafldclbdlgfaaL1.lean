import Derived.Test.YtaafldclbdlgfaaL0
/- Permutations as functions: what the programs' loops come to. -/
namespace Go.Proofs.Ytaafldclbdlgfaa
open Go.RowKit DM

/-- A permutation of n numbers in sixteen places. -/
structure Perm (n : Nat) (p : Nat → Nat) : Prop where
  lt : ∀ i, i < n → p i < n
  inj : ∀ i j, i < n → j < n → p i = p j → i = j

theorem perm_of_B {p : Nat → Nat} {n : Int} (h : permB p n = true) : ∃ N : Nat, n = N ∧ 1 ≤ N ∧ N ≤ 16 ∧ Perm N p := by
  have h1 := @of_decide_eq_true _ (Classical.propDecidable _) h
  refine ⟨n.toNat, by omega, by omega, by omega, fun i hi => ((h1.2 i (by omega)).1 hi).1, fun i j hi hj e => ?_⟩
  rcases Nat.lt_trichotomy i j with h2 | h2 | h2
  · exact absurd e (((h1.2 j (by omega)).1 hj).2 i h2)
  · exact h2
  · exact absurd e.symm (((h1.2 i (by omega)).1 hi).2 j h2)

end Go.Proofs.Ytaafldclbdlgfaa
