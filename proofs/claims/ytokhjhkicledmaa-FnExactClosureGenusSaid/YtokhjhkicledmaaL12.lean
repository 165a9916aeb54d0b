import Derived.Test.YtokhjhkicledmaaL3
/- Least common multiples, as they are made step by step. -/
namespace Go.Proofs.Ytokhjhkicledmaa
open Go.RowKit DM
set_option linter.unusedVariables false

/-- The least common multiple of the first i numbers. -/
def lcmTo (l : List Nat) : Nat → Nat
  | 0 => 1
  | i + 1 => lcmTo l i / Nat.gcd (lcmTo l i) (l.getD i 0) * l.getD i 0

theorem lcmTo_dvd {l : List Nat} (h : ∀ x ∈ l, 1 ≤ x ∧ x ≤ 16) : ∀ i, i ≤ l.length → lcmTo l i ∣ 720720 ∧ 0 < lcmTo l i
  | 0, _ => ⟨Nat.one_dvd _, Nat.one_pos⟩
  | i + 1, hi => by
    obtain ⟨h1, h2⟩ := lcmTo_dvd h i (by omega)
    have hx := h (l.getD i 0) (by rw [List.getD_eq_getElem?_getD, List.getElem?_eq_getElem (by omega)]; exact List.getElem_mem _)
    simp only [lcmTo]
    generalize l.getD i 0 = x at *
    generalize lcmTo l i = a at *
    have hg := Nat.gcd_dvd_left a x
    have e : a / Nat.gcd a x * x = Nat.lcm a x := by
      unfold Nat.lcm
      rw [Nat.mul_comm, ← Nat.mul_div_assoc _ hg, Nat.mul_comm]
    rw [e]
    refine ⟨Nat.lcm_dvd h1 ?_, Nat.lcm_pos h2 (by omega)⟩
    have : x = 1 ∨ x = 2 ∨ x = 3 ∨ x = 4 ∨ x = 5 ∨ x = 6 ∨ x = 7 ∨ x = 8 ∨ x = 9 ∨ x = 10 ∨ x = 11 ∨ x = 12 ∨ x = 13 ∨ x = 14 ∨ x = 15 ∨ x = 16 := by omega
    rcases this with rfl | rfl | rfl | rfl | rfl | rfl | rfl | rfl | rfl | rfl | rfl | rfl | rfl | rfl | rfl | rfl <;> exact Nat.dvd_of_mod_eq_zero (by decide)

theorem lcmTo_le {l : List Nat} (h : ∀ x ∈ l, 1 ≤ x ∧ x ≤ 16) {i : Nat} (hi : i ≤ l.length) : 0 < lcmTo l i ∧ lcmTo l i ≤ 720720 := by
  obtain ⟨h1, h2⟩ := lcmTo_dvd h i hi
  exact ⟨h2, Nat.le_of_dvd (by omega) h1⟩

end Go.Proofs.Ytokhjhkicledmaa
