import Derived.Test.YtokhjhkicledmaaL3
/- Namings: queues from any number, on plain data. -/
namespace Go.Proofs.Ytokhjhkicledmaa
open Go.RowKit DM

/-- The beginning: x alone. -/
def bx (x : Nat) : List Nat × (Nat → Bool) := ([x], up (fun _ => false) x true)
theorem bx_inv {n x : Nat} (hx : x < n) (hn : n ≤ 16) : BInv n (bx x) := ⟨fun y hy => by simp [bx] at hy; omega, by
  have h1 := cntU_up (met := fun _ => false) (y := x) (by omega) rfl
  have h2 := cntU_le 16 (fun _ => false)
  show 1 + cntU 16 (up (fun _ => false) x true) ≤ 16
  omega⟩

/-- All numbers that are reached from x, in the order of their names. -/
def bfsF (p q : Nat → Nat) (x : Nat) : List Nat := (bres p q 0 (bx x)).1

theorem bst_pre (y : Nat) (s : List Nat × (Nat → Bool)) : s.1 <+: (bst y s).1 := by
  unfold bst
  cases s.2 y
  · exact List.prefix_append _ _
  · exact List.prefix_refl _

theorem pre_getD {l k : List Nat} (h : l <+: k) {i : Nat} (hi : i < l.length) : k.getD i 0 = l.getD i 0 := by
  obtain ⟨t, rfl⟩ := h
  simp only [List.getD_eq_getElem?_getD]
  rw [List.getElem?_append_left hi]

theorem brun_inv {n : Nat} (hn : n ≤ 16) {p q : Nat → Nat} (hp : ∀ i, i < n → p i < n) (hq : ∀ i, i < n → q i < n) : ∀ (k i : Nat) (s : List Nat × (Nat → Bool)), BInv n s → BInv n (brun p q k i s)
  | 0, _, _, h => h
  | k + 1, i, s, h => by
    simp only [brun]
    split
    · rename_i hi
      exact brun_inv hn hp hq k (i + 1) _ (bmu_round hn hp hq h hi).1
    · exact h

theorem bfsF_inv {n : Nat} (hn : n ≤ 16) {p q : Nat → Nat} (hp : ∀ i, i < n → p i < n) (hq : ∀ i, i < n → q i < n) {x : Nat} (hx : x < n) : BInv n (bres p q 0 (bx x)) := brun_inv hn hp hq _ _ _ (bx_inv hx hn)

end Go.Proofs.Ytokhjhkicledmaa
