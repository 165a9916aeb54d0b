/- Signs: both sides; the law. -/
import Derived.Test.YtakpeibmaejmeaaX10
namespace Go.Proofs.Ytakpeibmaejmeaa
open Go.RowKit DM
set_option linter.unusedSimpArgs false
set_option linter.unusedVariables false
set_option maxRecDepth 100000
set_option maxHeartbeats 1000000

theorem cycs_len (p : Nat → Nat) (n : Nat) : (cycs p n).length ≤ n := cyTo_len p n

def signV (p : Nat → Nat) (n : Nat) : Int := if (n - (cycs p n).length) % 2 = 0 then 1 else -1

theorem tmodN (k : Nat) (d : Nat) : ((k : Int)).tmod (d : Int) = ((k % d : Nat) : Int) := by rw [Int.tmod_eq_emod_of_nonneg (by omega)]; simp

noncomputable def signR (p : Nat → Nat) (n : Int) : Dat := bif permB p n then t2 (.i .i64 (signV p n.toNat)) (.i .i64 0) else t2 (.i .i64 0) (.i .i64 1)

theorem signR_form (p : Nat → Nat) (n : Int) : ∃ r c, signR p n = t2 (.i .i64 r) (.i .i64 c) := by
  unfold signR
  cases permB p n with
  | true => exact ⟨_, _, rfl⟩
  | false => exact ⟨_, _, rfl⟩

end Go.Proofs.Ytakpeibmaejmeaa
