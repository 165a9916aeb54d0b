import Derived.Test.YtaafldclbdlgfaaL37
import Derived.Test.YtaafldclbdlgfaaD35
/- Sizes of products: pairs marked, sizes gathered, sorted. -/
namespace Go.Proofs.Ytaafldclbdlgfaa
open Go.RowKit DM
set_option linter.unusedVariables false
set_option linter.unusedSimpArgs false

theorem putS_mem {S : List (Nat × Nat)} {a z : Nat × Nat} : z ∈ putS S a ↔ z = a ∨ z ∈ S := by
  unfold putS
  split
  · rename_i h; exact ⟨.inr, fun h2 => h2.elim (fun e => e ▸ h) id⟩
  · simp [or_comm]

/-- The first k of a list, marked. -/
def mkS (S Q : List (Nat × Nat)) (k : Nat) : List (Nat × Nat) := (Q.take k).foldl putS S
theorem mkS_succ (S Q : List (Nat × Nat)) {k : Nat} (hk : k < Q.length) : mkS S Q (k + 1) = putS (mkS S Q k) (Q.getD k (0, 0)) := by
  unfold mkS
  rw [List.take_add_one, List.getElem?_eq_getElem hk, List.getD_eq_getElem?_getD, List.getElem?_eq_getElem hk]
  simp only [Option.toList_some, List.foldl_append, List.foldl_cons, List.foldl_nil, Option.getD_some]

/-- Marked pairs and sizes. -/
abbrev SzT := List (Nat × Nat) × List Nat
def szSt (q : Nat × Nat → List (Nat × Nat)) (s : SzT) (z : Nat × Nat) : SzT := if z ∈ s.1 then s else (mkS s.1 (q z) (q z).length, s.2 ++ [(q z).length])
def szRow (q : Nat × Nat → List (Nat × Nat)) (x : Nat) (s : SzT) : Nat → SzT
  | 0 => s
  | y + 1 => szSt q (szRow q x s y) (x, y)
def szAll (q : Nat × Nat → List (Nat × Nat)) (M : Nat) : Nat → SzT
  | 0 => ([], [])
  | x + 1 => szRow q x (szAll q M x) M

theorem szSt_len (q : Nat × Nat → List (Nat × Nat)) (s : SzT) (z : Nat × Nat) : (szSt q s z).2.length ≤ s.2.length + 1 := by unfold szSt; split <;> simp
theorem szRow_len (q : Nat × Nat → List (Nat × Nat)) (x : Nat) (s : SzT) : ∀ y, (szRow q x s y).2.length ≤ s.2.length + y
  | 0 => Nat.le_refl _
  | y + 1 => by
    have h1 := szRow_len q x s y
    have h2 := szSt_len q (szRow q x s y) (x, y)
    simp only [szRow]; omega
theorem szAll_len (q : Nat × Nat → List (Nat × Nat)) (M : Nat) : ∀ x, (szAll q M x).2.length ≤ x * M
  | 0 => by simp [szAll]
  | x + 1 => by
    have h1 := szAll_len q M x
    have h2 := szRow_len q x (szAll q M x) M
    simp only [szAll]; rw [Nat.add_mul]; omega
theorem sz_len256 (q : Nat × Nat → List (Nat × Nat)) {M x y : Nat} (hM : M ≤ 16) (hx : x < 16) (hy : y ≤ M) : (szRow q x (szAll q M x) y).2.length ≤ 256 := by
  have h1 := szAll_len q M x
  have h2 := szRow_len q x (szAll q M x) y
  have h3 : x * M ≤ 15 * 16 := Nat.mul_le_mul (by omega) hM
  omega
theorem sz_len (q : Nat × Nat → List (Nat × Nat)) {M x : Nat} (hM : M ≤ 16) (hx : x ≤ 16) : (szAll q M x).2.length ≤ 256 := by
  have h1 := szAll_len q M x
  have h3 : x * M ≤ 16 * 16 := Nat.mul_le_mul (by omega) hM
  omega

/-- A number put in where it belongs. -/
def atN (v : Nat) : List Nat → Nat
  | [] => 0
  | a :: L => if a < v then atN v L + 1 else 0
theorem atN_le (v : Nat) : ∀ L, atN v L ≤ L.length
  | [] => Nat.le_refl _
  | a :: L => by
    have := atN_le v L
    simp only [atN, List.length_cons]
    split <;> omega
theorem atN_lt (v : Nat) : ∀ {L : List Nat} {j : Nat}, j < atN v L → L.getD j 0 < v
  | [], j, h => by simp [atN] at h
  | a :: L, j, h => by
    simp only [atN] at h
    split at h
    · rename_i h1
      cases j with
      | zero => exact h1
      | succ j => exact atN_lt v (L := L) (by omega)
    · omega
theorem atN_at (v : Nat) : ∀ {L : List Nat}, atN v L < L.length → ¬ L.getD (atN v L) 0 < v
  | [], h => by simp [atN] at h
  | a :: L, h => by
    simp only [atN] at h ⊢
    split
    · rename_i h1
      rw [if_pos h1] at h
      exact atN_at v (L := L) (by simpa using h)
    · rename_i h1; exact h1
theorem atN_eq {v : Nat} {L : List Nat} {k : Nat} (hk : k ≤ L.length) (h1 : ∀ j, j < k → L.getD j 0 < v) (h2 : k < L.length → ¬ L.getD k 0 < v) : k = atN v L := by
  rcases Nat.lt_trichotomy k (atN v L) with h | h | h
  · exact absurd (atN_lt v h) (h2 (Nat.lt_of_lt_of_le h (atN_le v L)))
  · exact h
  · exact absurd (h1 _ h) (atN_at v (by omega))

def insN (v : Nat) (L : List Nat) : List Nat := L.take (atN v L) ++ v :: L.drop (atN v L)

theorem srtN_sorted (l : List Nat) : (srtN l).Pairwise fun x y => x ≤ y := by
  have := List.pairwise_mergeSort (le := fun x y : Nat => decide (x ≤ y)) (fun a b c h1 h2 => by simp at *; omega) (fun a b => by simp; omega) l
  exact this.imp fun h => of_decide_eq_true h

theorem insN_perm (v : Nat) (L : List Nat) : (insN v L).Perm (L ++ [v]) := by
  unfold insN
  refine List.perm_middle.trans ?_
  rw [List.take_append_drop]
  exact (List.perm_append_comm (l₁ := [v]) (l₂ := L))

theorem insN_sorted (v : Nat) : ∀ {L : List Nat}, L.Pairwise (fun x y => x ≤ y) → (insN v L).Pairwise fun x y => x ≤ y
  | [], _ => by simp [insN, atN]
  | a :: L, h => by
    obtain ⟨h1, h2⟩ := List.pairwise_cons.1 h
    by_cases hc : a < v
    · have e : insN v (a :: L) = a :: insN v L := by simp [insN, atN, hc]
      rw [e]
      refine List.pairwise_cons.2 ⟨fun x hx => ?_, insN_sorted v h2⟩
      have hx := (insN_perm v L).mem_iff.1 hx
      rcases List.mem_append.1 hx with hx | hx
      · exact h1 x hx
      · rw [List.mem_singleton] at hx; omega
    · have e : insN v (a :: L) = v :: a :: L := by simp [insN, atN, hc]
      rw [e]
      refine List.pairwise_cons.2 ⟨fun x hx => ?_, h⟩
      rcases List.mem_cons.1 hx with rfl | hx
      · omega
      · have := h1 x hx; omega

theorem insN_srt (v : Nat) (l : List Nat) : insN v (srtN l) = srtN (l ++ [v]) := by
  refine List.Perm.eq_of_pairwise (le := fun x y => x ≤ y) (fun a b _ _ h1 h2 => Nat.le_antisymm h1 h2) (insN_sorted v (srtN_sorted l)) (srtN_sorted _) ?_
  refine (insN_perm v _).trans (List.Perm.trans ?_ (List.mergeSort_perm _ _).symm)
  exact List.Perm.append_right _ (List.mergeSort_perm _ _)

end Go.Proofs.Ytaafldclbdlgfaa
