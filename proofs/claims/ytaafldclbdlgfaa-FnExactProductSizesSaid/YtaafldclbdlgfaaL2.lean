import Derived.Test.YtaafldclbdlgfaaL1
/- Queues: numbers that are reached by two permutations. -/
namespace Go.Proofs.Ytaafldclbdlgfaa
open Go.RowKit DM

/-- A row of bytes. -/
def bytesF (Q : List Nat) (j : Nat) : Dat := .i .u8 ((Q.getD j 0 : Nat) : Int)

theorem ap_bytes (Q : List Nat) (y : Nat) (z : Dat) (j : Nat) (hj : j < Q.length + 1) : bytesF (Q ++ [y]) j = apF Q.length (bytesF Q) 0 (fup (fun _ => z) 0 (.i .u8 ((y : Nat) : Int))) j := by
  unfold apF bytesF
  by_cases h : j < Q.length
  · rw [show Nat.blt j Q.length = true from by rw [Nat.blt_eq]; exact h]
    simp [List.getD_eq_getElem?_getD, List.getElem?_append_left h]
  · have e : j = Q.length := by omega
    subst e
    rw [show Nat.blt Q.length Q.length = false from by cases hh : Nat.blt Q.length Q.length with | false => rfl | true => rw [Nat.blt_eq] at hh; omega]
    simp [List.getD_eq_getElem?_getD, fup]

/-- One number more, if it is new. -/
def bst (y : Nat) (s : List Nat × (Nat → Bool)) : List Nat × (Nat → Bool) := bif s.2 y then s else (s.1 ++ [y], up s.2 y true)

theorem bst_new {y : Nat} {Q : List Nat} {met : Nat → Bool} (h : met y = false) : bst y (Q, met) = (Q ++ [y], up met y true) := by
  show (bif met y then _ else _) = _
  rw [h]; rfl
theorem bst_old {y : Nat} {Q : List Nat} {met : Nat → Bool} (h : met y = true) : bst y (Q, met) = (Q, met) := by
  show (bif met y then _ else _) = _
  rw [h]; rfl

/-- What the queue is after all that it leads to. -/
def brun (p q : Nat → Nat) : Nat → Nat → List Nat × (Nat → Bool) → List Nat × (Nat → Bool)
  | 0, _, s => s
  | k + 1, i, s => if i < s.1.length then brun p q k (i + 1) (bst (q (s.1.getD i 0)) (bst (p (s.1.getD i 0)) s)) else s

/-- How many rounds are left at most. -/
def bmu (i : Nat) (s : List Nat × (Nat → Bool)) : Nat := 2 * cntU 16 s.2 + s.1.length - i

structure BInv (n : Nat) (s : List Nat × (Nat → Bool)) : Prop where
  small : ∀ x ∈ s.1, x < n
  len : s.1.length + cntU 16 s.2 ≤ 16

theorem BInv.get {n : Nat} {s : List Nat × (Nat → Bool)} (h : BInv n s) {i : Nat} (hi : i < s.1.length) : s.1.getD i 0 < n := by
  rw [List.getD_eq_getElem?_getD, List.getElem?_eq_getElem hi]
  exact h.small _ (List.getElem_mem hi)

theorem cntU_up {met : Nat → Bool} {y : Nat} (hy : y < 16) (h : met y = false) : cntU 16 met = cntU 16 (up met y true) + 1 :=
  (cntU_set (i := y) (f := met) (g := up met y true) h (up_same _ _ _) (fun _ hj => up_ne _ _ hj) (n := 16)).1 hy

theorem BInv.bst {n : Nat} (hn : n ≤ 16) {s : List Nat × (Nat → Bool)} (h : BInv n s) {y : Nat} (hy : y < n) : BInv n (bst y s) := by
  unfold Go.Proofs.Ytaafldclbdlgfaa.bst
  cases hm : s.2 y with
  | true => exact h
  | false =>
    have hc := cntU_up (met := s.2) (y := y) (by omega) hm
    refine ⟨fun x hx => ?_, ?_⟩
    · simp only [cond_false, List.mem_append, List.mem_singleton] at hx
      rcases hx with hx | rfl
      · exact h.small x hx
      · exact hy
    · have := h.len
      simp only [cond_false, List.length_append, List.length_singleton]
      omega

theorem bmu_bst {n : Nat} (hn : n ≤ 16) {s : List Nat × (Nat → Bool)} {y : Nat} (hy : y < n) (i : Nat) (hi : i ≤ s.1.length) : bmu i (bst y s) ≤ bmu i s ∧ s.1.length ≤ (bst y s).1.length := by
  unfold bst bmu
  cases hm : s.2 y with
  | true => exact ⟨Nat.le_refl _, Nat.le_refl _⟩
  | false =>
    have hc := cntU_up (met := s.2) (y := y) (by omega) hm
    simp only [cond_false, List.length_append, List.length_singleton]
    constructor <;> omega

theorem bmu_round {n : Nat} (hn : n ≤ 16) {p q : Nat → Nat} (hp : ∀ i, i < n → p i < n) (hq : ∀ i, i < n → q i < n) {s : List Nat × (Nat → Bool)} (h : BInv n s) {i : Nat} (hi : i < s.1.length) :
    BInv n (bst (q (s.1.getD i 0)) (bst (p (s.1.getD i 0)) s)) ∧ bmu (i + 1) (bst (q (s.1.getD i 0)) (bst (p (s.1.getD i 0)) s)) < bmu i s := by
  have hx := h.get hi
  have h1 := h.bst hn (hp _ hx)
  have h2 := h1.bst hn (hq _ hx)
  obtain ⟨g1, g2⟩ := bmu_bst hn (s := s) (hp _ hx) i (by omega)
  obtain ⟨g3, g4⟩ := bmu_bst hn (s := bst (p (s.1.getD i 0)) s) (hq _ hx) i (by omega)
  refine ⟨h2, ?_⟩
  have : bmu (i + 1) (bst (q (s.1.getD i 0)) (bst (p (s.1.getD i 0)) s)) + 1 = bmu i (bst (q (s.1.getD i 0)) (bst (p (s.1.getD i 0)) s)) := by
    unfold bmu; omega
  omega

/-- More rounds tell the same. -/
theorem brun_more {n : Nat} (hn : n ≤ 16) {p q : Nat → Nat} (hp : ∀ i, i < n → p i < n) (hq : ∀ i, i < n → q i < n) : ∀ (k k' i : Nat) (s : List Nat × (Nat → Bool)), BInv n s → bmu i s ≤ k → bmu i s ≤ k' → brun p q k i s = brun p q k' i s
  | 0, 0, i, s, _, _, _ => rfl
  | 0, k' + 1, i, s, h, hk, _ => by
    simp only [brun]
    rw [if_neg (by unfold bmu at hk; omega)]
  | k + 1, 0, i, s, h, _, hk => by
    simp only [brun]
    rw [if_neg (by unfold bmu at hk; omega)]
  | k + 1, k' + 1, i, s, h, hk, hk' => by
    simp only [brun]
    split
    · rename_i hi
      obtain ⟨g1, g2⟩ := bmu_round hn hp hq h hi
      exact brun_more hn hp hq k k' (i + 1) _ g1 (by omega) (by omega)
    · rfl

def bres (p q : Nat → Nat) (i : Nat) (s : List Nat × (Nat → Bool)) : List Nat × (Nat → Bool) := brun p q (bmu i s) i s

theorem bres_step {n : Nat} (hn : n ≤ 16) {p q : Nat → Nat} (hp : ∀ i, i < n → p i < n) (hq : ∀ i, i < n → q i < n) {i : Nat} {s : List Nat × (Nat → Bool)} (h : BInv n s) (hi : i < s.1.length) :
    bres p q (i + 1) (bst (q (s.1.getD i 0)) (bst (p (s.1.getD i 0)) s)) = bres p q i s := by
  obtain ⟨g1, g2⟩ := bmu_round hn hp hq h hi
  unfold bres
  rw [show bmu i s = (bmu i s - 1) + 1 by omega]
  simp only [brun, if_pos hi]
  exact brun_more hn hp hq _ _ _ _ g1 (Nat.le_refl _) (by omega)

theorem bres_end {p q : Nat → Nat} {i : Nat} {s : List Nat × (Nat → Bool)} (hi : ¬ i < s.1.length) : bres p q i s = s := by
  unfold bres
  cases bmu i s with
  | zero => rfl
  | succ k => simp only [brun, if_neg hi]

/-- The beginning: 0 alone. -/
def b0 : List Nat × (Nat → Bool) := ([0], up (fun _ => false) 0 true)
theorem b0_inv {n : Nat} (h1 : 1 ≤ n) : BInv n b0 := ⟨fun x hx => by simp [b0] at hx; omega, by show 1 + cntU 16 _ ≤ 16; decide⟩

/-- All numbers that are reached from 0. -/
def bfs (p q : Nat → Nat) : List Nat := (bres p q 0 b0).1

end Go.Proofs.Ytaafldclbdlgfaa
