import Derived.Test.YtakapfgjdhliaaaD22
/- A permutation from lists among its cycles: what both sides compute. -/
namespace Go.Proofs.Ytakapfgjdhliaaa
open Go.RowKit DM

/-- Whether x leads to y may be noted. -/
def okB (N : Nat) (x y : Int) (met : Nat → Bool) : Bool := (decide (0 ≤ x) && decide (x < N)) && ((decide (0 ≤ y) && decide (y < N)) && !met x.toNat)
def stB (x y : Int) (s : (Nat → Nat) × (Nat → Bool)) : (Nat → Nat) × (Nat → Bool) := (up s.1 x.toNat y.toNat, up s.2 x.toNat true)
def inB (N : Nat) (h : Nat → Int) (L : Nat) : Nat → Nat → (Nat → Nat) × (Nat → Bool) → Option ((Nat → Nat) × (Nat → Bool))
  | 0, _, s => some s
  | m + 1, k, s => bif okB N (h k) (h ((k + 1) % L)) s.2 then inB N h L m (k + 1) (stB (h k) (h ((k + 1) % L)) s) else none
def outB (N : Nat) (ln : Nat → Nat) (g : Nat → Nat → Int) : Nat → Nat → (Nat → Nat) × (Nat → Bool) → Option ((Nat → Nat) × (Nat → Bool))
  | 0, _, s => some s
  | m + 1, i, s => bif Nat.beq (ln i) 0 then none else (inB N (g i) (ln i) (ln i) 0 s).bind (outB N ln g m (i + 1))
def madeB (N : Nat) (n : Nat) (ln : Nat → Nat) (g : Nat → Nat → Int) : Option ((Nat → Nat) × (Nat → Bool)) := outB N ln g n 0 (fillF (fun i => i) N, fun _ => false)
/-- What the two functions answer. -/
def pcV (N : Int) (n : Nat) (ln : Nat → Nat) (g : Nat → Nat → Int) : Option ((Nat → Nat) × (Nat → Bool)) := bif decide (1 ≤ N) && decide (N ≤ 16) then madeB N.toNat n ln g else none

theorem okB_t {N : Nat} {x y : Int} {met : Nat → Bool} (h : okB N x y met = true) : ∃ X Y : Nat, x = X ∧ y = Y ∧ X < N ∧ Y < N ∧ met X = false := by
  simp only [okB, Bool.and_eq_true, decide_eq_true_eq, Bool.not_eq_true'] at h
  exact ⟨x.toNat, y.toNat, by omega, by omega, by omega, by omega, h.2.2⟩

theorem okB_no {N : Nat} {x y : Int} {met : Nat → Bool} (h : x < 0 ∨ (N : Int) ≤ x ∨ y < 0 ∨ (N : Int) ≤ y ∨ met x.toNat = true) : okB N x y met = false := by
  cases e : okB N x y met
  · rfl
  · obtain ⟨X, Y, rfl, rfl, h1, h2, h3⟩ := okB_t e
    rw [Int.toNat_natCast, h3] at h
    simp at h
    omega

theorem okB_yes {N X Y : Nat} {met : Nat → Bool} (h1 : X < N) (h2 : Y < N) (h3 : met X = false) : okB N X Y met = true := by
  unfold okB
  rw [Int.toNat_natCast, h3]
  simp; omega

end Go.Proofs.Ytakapfgjdhliaaa
