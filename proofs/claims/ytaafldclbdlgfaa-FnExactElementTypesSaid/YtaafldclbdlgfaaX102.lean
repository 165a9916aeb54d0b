import Derived.Test.YtaafldclbdlgfaaX100
import Derived.Test.YtaafldclbdlgfaaD34
import Derived.Test.YtaafldclbdlgfaaD31
/- slices.CompactFunc at [][]int64 with slices.Equal: of neighbours that are the same the first stays. Walked over references to the rows inside. -/
namespace Go.Proofs.Ytaafldclbdlgfaa
open Go.RowKit DM
set_option linter.unusedSimpArgs false
set_option linter.unusedVariables false
set_option maxRecDepth 100000
set_option maxHeartbeats 1000000

/-- Places of which no two neighbours hold the same, that stand for a list. -/
structure Picks (L : List (List Nat)) (k : Nat) (I : List Nat) : Prop where
  asc : I.Pairwise (· < ·)
  lt : ∀ x ∈ I, x < k
  map : I.map (fun j => L.getD j []) = cmpL (L.take k)

theorem cmp_snoc : ∀ (X : List (List Nat)) (a b : List Nat), cmpL (X ++ [a, b]) = if a = b then cmpL (X ++ [a]) else cmpL (X ++ [a]) ++ [b]
  | [], a, b => by
    simp only [List.nil_append, cmpL]
    by_cases h : a = b
    · rw [if_pos h, if_pos h, h]
    · rw [if_neg h, if_neg h]; rfl
  | [x], a, b => by
    simp only [List.cons_append, List.nil_append, cmpL]
    by_cases h : a = b
    · subst h; simp
    · by_cases h2 : x = a
      · subst h2; simp [h]
      · simp [h, h2]
  | x :: y :: X, a, b => by
    have ih := cmp_snoc (y :: X) a b
    simp only [List.cons_append] at ih ⊢
    simp only [cmpL]
    rw [ih]
    by_cases h : a = b
    · simp [h]
    · by_cases h2 : x = y
      · simp [h, h2]
      · simp [h, h2]

theorem take_two {L : List (List Nat)} {k : Nat} (hk : k + 1 < L.length) : L.take (k + 2) = L.take k ++ [L.getD k [], L.getD (k + 1) []] ∧ L.take (k + 1) = L.take k ++ [L.getD k []] := by
  have h1 : ∀ j, j < L.length → L.take (j + 1) = L.take j ++ [L.getD j []] := fun j hj => by
    rw [List.take_add_one, List.getElem?_eq_getElem hj, List.getD_eq_getElem?_getD, List.getElem?_eq_getElem hj]; rfl
  refine ⟨?_, h1 k (by omega)⟩
  rw [h1 (k + 1) hk, h1 k (by omega)]; simp

theorem Picks.same {L : List (List Nat)} {k : Nat} {I : List Nat} (h : Picks L (k + 1) I) (hk : k + 1 < L.length) (he : L.getD (k + 1) [] = L.getD k []) : Picks L (k + 2) I := by
  obtain ⟨e1, e2⟩ := take_two hk
  refine ⟨h.asc, fun x hx => Nat.lt_succ_of_lt (h.lt x hx), ?_⟩
  rw [h.map, e1, e2, cmp_snoc, if_pos he.symm]

theorem Picks.more {L : List (List Nat)} {k : Nat} {I : List Nat} (h : Picks L (k + 1) I) (hk : k + 1 < L.length) (he : L.getD (k + 1) [] ≠ L.getD k []) : Picks L (k + 2) (I ++ [k + 1]) := by
  obtain ⟨e1, e2⟩ := take_two hk
  refine ⟨List.pairwise_append.2 ⟨h.asc, List.pairwise_singleton _ _, fun x hx y hy => ?_⟩, fun x hx => ?_, ?_⟩
  · rw [List.mem_singleton] at hy; subst hy; exact h.lt x hx
  · rw [List.mem_append, List.mem_singleton] at hx
    rcases hx with hx | rfl
    · exact Nat.lt_succ_of_lt (h.lt x hx)
    · omega
  · rw [List.map_append, h.map, e1, e2, cmp_snoc, if_neg (Ne.symm he)]; rfl

theorem Picks.one (L : List (List Nat)) (h : 0 < L.length) : Picks L 1 [0] := by
  refine ⟨List.pairwise_singleton _ _, fun x hx => by simp at hx; omega, ?_⟩
  cases L with
  | nil => simp at h
  | cons a L => rfl

theorem asc_len : ∀ {I : List Nat} {a k : Nat}, I.Pairwise (· < ·) → (∀ x ∈ I, a ≤ x ∧ x < k) → I.length ≤ k - a
  | [], _, _, _, _ => Nat.zero_le _
  | x :: I, a, k, h, hx => by
    obtain ⟨h1, h2⟩ := List.pairwise_cons.1 h
    have h3 := hx x (.head _)
    have := asc_len (a := x + 1) h2 fun y hy => ⟨h1 y hy, (hx y (.tail _ hy)).2⟩
    simp only [List.length_cons]; omega
theorem Picks.len {L : List (List Nat)} {k : Nat} {I : List Nat} (h : Picks L k I) : I.length ≤ k := by
  have := asc_len (a := 0) h.asc fun x hx => ⟨Nat.zero_le _, h.lt x hx⟩
  omega

end Go.Proofs.Ytaafldclbdlgfaa
