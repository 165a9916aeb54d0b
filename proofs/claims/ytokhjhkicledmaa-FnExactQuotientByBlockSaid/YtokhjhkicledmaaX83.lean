import Derived.Test.YtokhjhkicledmaaL29
import Derived.Test.YtokhjhkicledmaaX4
import Derived.Test.YtokhjhkicledmaaD29
import Derived.Test.YtokhjhkicledmaaX9
/- Groups, the program's side: sifting, orders. -/
namespace Go.Proofs.Ytokhjhkicledmaa
open Go.RowKit DM
set_option linter.unusedSimpArgs false
set_option linter.unusedVariables false
set_option maxRecDepth 100000
set_option maxHeartbeats 1000000

end Go.Proofs.Ytokhjhkicledmaa

/- Groups, the program's side: the order. -/
namespace Go.Proofs.Ytokhjhkicledmaa
open Go.RowKit DM
set_option linter.unusedSimpArgs false
set_option linter.unusedVariables false
set_option maxRecDepth 100000
set_option maxHeartbeats 1000000

end Go.Proofs.Ytokhjhkicledmaa

/- Groups, the program's side: filling the table. -/
namespace Go.Proofs.Ytokhjhkicledmaa
open Go.RowKit DM
set_option linter.unusedSimpArgs false
set_option linter.unusedVariables false
set_option maxRecDepth 100000
set_option maxHeartbeats 1000000

end Go.Proofs.Ytokhjhkicledmaa

/- Groups, the program's side: order and membership. -/
namespace Go.Proofs.Ytokhjhkicledmaa
open Go.RowKit DM
set_option linter.unusedSimpArgs false
set_option linter.unusedVariables false
set_option maxRecDepth 100000
set_option maxHeartbeats 1000000

theorem np_of_B {p : Nat → Nat} (hz : ∀ i, 16 ≤ i → p i = 0) {N : Nat} (h : permB p N = true) : Np N p := by
  obtain ⟨N', e, h1, h2, h3⟩ := perm_of_B h
  obtain rfl : N' = N := by omega
  have h4 := @of_decide_eq_true _ (Classical.propDecidable _) h
  refine ⟨h3, fun i hi => ?_⟩
  by_cases h5 : i < 16
  · exact (h4.2 i h5).2 (by simpa using hi)
  · exact hz i (by omega)

theorem des_np {n : Int} {b w : Nat → Nat} (h : desB n b w = true) (hbz : ∀ i, 16 ≤ i → b i = 0) (hwz : ∀ i, 16 ≤ i → w i = 0) : ∃ N : Nat, n = N ∧ Des N b w ∧ Np N b ∧ Np N w := by
  obtain ⟨N, rfl, hD⟩ := des_of_B h
  unfold desB at h
  simp only [Bool.and_eq_true, decide_eq_true_eq] at h
  exact ⟨N, rfl, hD, np_of_B hbz h.1, np_of_B hwz h.2.1⟩

end Go.Proofs.Ytokhjhkicledmaa
