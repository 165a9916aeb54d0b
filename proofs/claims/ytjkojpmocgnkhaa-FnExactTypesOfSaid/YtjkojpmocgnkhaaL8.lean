/- All types: what both sides compute. -/
import Derived.Test.YtjkojpmocgnkhaaL3
namespace Go.Proofs.Ytjkojpmocgnkhaa
open Go.RowKit DM
set_option linter.unusedVariables false

/-- All types of n with parts up to a greatest one. -/
def tyF : Nat → Nat → Nat → List (List Nat)
  | 0, _, _ => []
  | f + 1, n, most => if n = 0 then [[]] else (List.range (min n most)).flatMap fun j => (tyF f (n - (j + 1)) (j + 1)).map ((j + 1) :: ·)
/-- Those with a first part up to k. -/
def tyP (f n : Nat) : Nat → List (List Nat)
  | 0 => []
  | k + 1 => tyP f n k ++ (tyF f (n - (k + 1)) (k + 1)).map ((k + 1) :: ·)

theorem tyP_eq (f n : Nat) : ∀ k, tyP f n k = (List.range k).flatMap fun j => (tyF f (n - (j + 1)) (j + 1)).map ((j + 1) :: ·)
  | 0 => rfl
  | k + 1 => by rw [tyP, tyP_eq f n k, List.range_succ, List.flatMap_append]; simp
theorem tyF_zero (f most : Nat) : tyF (f + 1) 0 most = [[]] := rfl
theorem tyF_pos (f : Nat) {n : Nat} (most : Nat) (h : n ≠ 0) : tyF (f + 1) n most = tyP f n (min n most) := by
  rw [tyP_eq, tyF, if_neg h]

theorem tyP_mono (f n : Nat) {k m : Nat} (h : k ≤ m) : (tyP f n k).length ≤ (tyP f n m).length := by
  induction m with
  | zero => have : k = 0 := by omega
            subst this; exact Nat.le_refl _
  | succ m ih =>
    by_cases e : k = m + 1
    · subst e; exact Nat.le_refl _
    · have := ih (by omega)
      rw [tyP, List.length_append]; omega

theorem ty_len : ∀ f n most, (tyF f n most).length ≤ 2 ^ n
  | 0, n, most => Nat.zero_le _
  | f + 1, n, most => by
    by_cases h : n = 0
    · subst h; exact Nat.le_refl _
    · rw [tyF_pos f most h]
      have key : ∀ k, k ≤ n → (tyP f n k).length + 2 ^ (n - k) ≤ 2 ^ n := by
        intro k
        induction k with
        | zero => intro _; simp [tyP]
        | succ k ih =>
          intro hk
          have h1 := ih (by omega)
          have h2 := ty_len f (n - (k + 1)) (k + 1)
          rw [tyP, List.length_append, List.length_map]
          have h3 : 2 ^ (n - k) = 2 * 2 ^ (n - (k + 1)) := by rw [show n - k = (n - (k + 1)) + 1 by omega, Nat.pow_succ]; omega
          omega
      exact Nat.le_trans (Nat.le_add_right _ _) (key (min n most) (by omega))

theorem tyF_inner_len : ∀ f n most, ∀ l ∈ tyF f n most, l.length ≤ n
  | 0, n, most, l, h => by simp [tyF] at h
  | f + 1, n, most, l, h => by
    unfold tyF at h
    split at h
    · simp at h; subst h; simp
    · obtain ⟨j, hj, h⟩ := List.mem_flatMap.1 h
      obtain ⟨l', h1, rfl⟩ := List.mem_map.1 h
      have := tyF_inner_len f _ _ l' h1
      have hj := List.mem_range.1 hj
      simp only [List.length_cons]; omega

theorem getD_len {L : List (List Nat)} {b : Nat} (h : ∀ l ∈ L, l.length ≤ b) (j : Nat) : (L.getD j []).length ≤ b := by
  rw [List.getD_eq_getElem?_getD]
  cases e : L[j]? with
  | none => simp
  | some l => exact h l (List.mem_of_getElem? e)

theorem map_take_succ {α β : Type} (F : α → β) (L : List α) (i : Nat) (x : α) (h : i < L.length) (hx : L.getD i x = L.getD i x) : (L.take (i + 1)).map F = (L.take i).map F ++ [F (L.getD i x)] := by
  rw [List.take_add_one, List.map_append, List.getD_eq_getElem?_getD, List.getElem?_eq_getElem h]
  rfl
end Go.Proofs.Ytjkojpmocgnkhaa
