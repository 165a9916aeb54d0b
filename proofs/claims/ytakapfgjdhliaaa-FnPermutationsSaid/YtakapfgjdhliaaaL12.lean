import Derived.Test.YtakapfgjdhliaaaL10
import Derived.Test.YtakapfgjdhliaaaL3
/- Types of permutations: the lengths of the cycles, sorted downwards, and counted downwards. -/
namespace Go.Proofs.Ytakapfgjdhliaaa
open Go.RowKit DM
set_option linter.unusedVariables false

def srtN (l : List Nat) : List Nat := l.mergeSort fun x y => decide (x ≤ y)

theorem srtN_len (l : List Nat) : (srtN l).length = l.length := (List.mergeSort_perm _ _).length_eq

/-- How many lists have each length, i lists being counted. -/
def cTo (L : List (List Nat)) : Nat → Nat → Nat
  | 0 => fun _ => 0
  | i + 1 => up (cTo L i) (L.getD i []).length (cTo L i (L.getD i []).length + 1)

theorem cTo_count (L : List (List Nat)) : ∀ i, i ≤ L.length → ∀ k, cTo L i k = ((L.take i).map List.length).count k
  | 0, _, k => by simp [cTo]
  | i + 1, h, k => by
    have e : L.getD i [] = L[i] := by rw [List.getD_eq_getElem?_getD, List.getElem?_eq_getElem (by omega)]; rfl
    rw [List.take_add_one, List.getElem?_eq_getElem (by omega : i < L.length)]
    simp only [cTo, up, Option.toList_some, List.map_append, List.map_cons, List.map_nil, List.count_append, List.count_singleton]
    rw [e]
    have ih := fun k => cTo_count L i (by omega) k
    by_cases c : k = L[i].length
    · rw [if_pos c, if_pos (by simpa using c.symm), ← c, ih]
    · rw [if_neg c, if_neg (by simpa using fun h => c h.symm), ih]; rfl

/-- The counted numbers from n down, m of them. -/
def dTo (c : Nat → Nat) (n : Nat) : Nat → List Nat
  | 0 => []
  | m + 1 => dTo c n m ++ List.replicate (c (n - m)) (n - m)

theorem dTo_count (c : Nat → Nat) (n : Nat) : ∀ m, m ≤ n → ∀ k, (dTo c n m).count k = if n - m < k ∧ k ≤ n then c k else 0
  | 0, _, k => by
    simp only [dTo, List.count_nil]
    rw [if_neg (by omega)]
  | m + 1, h, k => by
    simp only [dTo, List.count_append, dTo_count c n m (by omega) k, List.count_replicate]
    by_cases e : n - m = k
    · subst e
      rw [if_neg (by omega), if_pos (by simp), if_pos (by omega)]; omega
    · rw [if_neg (show ¬ (n - m == k) = true by simpa using e)]
      by_cases e2 : n - m < k ∧ k ≤ n
      · rw [if_pos e2, if_pos (by omega)]; rfl
      · rw [if_neg e2, if_neg (by omega)]

theorem dTo_mem (c : Nat → Nat) (n : Nat) : ∀ m, m ≤ n → ∀ x ∈ dTo c n m, n - m < x ∧ x ≤ n
  | 0, _, x, hx => by simp [dTo] at hx
  | m + 1, h, x, hx => by
    simp only [dTo, List.mem_append, List.mem_replicate] at hx
    rcases hx with hx | ⟨_, rfl⟩
    · have := dTo_mem c n m (by omega) x hx; omega
    · omega

theorem dTo_sorted (c : Nat → Nat) (n : Nat) : ∀ m, m ≤ n → (dTo c n m).Pairwise (fun x y => y ≤ x)
  | 0, _ => List.Pairwise.nil
  | m + 1, h => by
    simp only [dTo]
    rw [List.pairwise_append]
    refine ⟨dTo_sorted c n m (by omega), ?_, fun x hx y hy => ?_⟩
    · rw [List.pairwise_replicate]; exact .inr (Nat.le_refl _)
    · have := dTo_mem c n m (by omega) x hx
      have := List.eq_of_mem_replicate hy
      omega

def tyN (L : List (List Nat)) (n : Nat) : List Nat := dTo (cTo L L.length) n n

/-- Sorted and turned round is counted downwards. -/
theorem ty_eq {L : List (List Nat)} {n : Nat} (h : ∀ l ∈ L, 1 ≤ l.length ∧ l.length ≤ n) : (srtN (L.map List.length)).reverse = tyN L n := by
  refine List.Perm.eq_of_pairwise (le := fun x y => y ≤ x) (fun a b _ _ h1 h2 => Nat.le_antisymm h2 h1) ?_ (dTo_sorted _ _ _ (Nat.le_refl _)) ?_
  · rw [List.pairwise_reverse]
    have := List.pairwise_mergeSort (le := fun x y : Nat => decide (x ≤ y)) (fun a b c h1 h2 => by simp at *; omega) (fun a b => by simp; omega) (L.map List.length)
    exact this.imp fun h => of_decide_eq_true h
  · refine ((List.reverse_perm _).trans (List.mergeSort_perm _ _)).trans ?_
    rw [List.perm_iff_count]
    intro k
    unfold tyN
    rw [dTo_count _ _ _ (Nat.le_refl _), cTo_count L _ (Nat.le_refl _), List.take_length]
    by_cases e : n - n < k ∧ k ≤ n
    · rw [if_pos e]
    · rw [if_neg e, List.count_eq_zero]
      intro hk
      obtain ⟨l, hl, rfl⟩ := List.mem_map.1 hk
      have := h l hl
      omega

theorem tyN_len {L : List (List Nat)} {n : Nat} (h : ∀ l ∈ L, 1 ≤ l.length ∧ l.length ≤ n) : (tyN L n).length = L.length := by
  rw [← ty_eq h, List.length_reverse, srtN_len, List.length_map]

theorem nodup_len : ∀ (n : Nat) (l : List Nat), l.Nodup → (∀ x ∈ l, x < n) → l.length ≤ n
  | 0, l, _, h => by
    cases l with
    | nil => simp
    | cons a l => exact absurd (h a (by simp)) (Nat.not_lt_zero _)
  | n + 1, l, hd, h => by
    by_cases hn : n ∈ l
    · have h1 := nodup_len n (l.erase n) (hd.erase n) fun x hx => by
        have h2 := h x (List.mem_of_mem_erase hx)
        have h3 : x ≠ n := fun e => by subst e; exact hd.not_mem_erase hx
        omega
      have h2 := List.length_erase_of_mem hn
      omega
    · have := nodup_len n l hd fun x hx => by
        have h2 := h x hx
        have h3 : x ≠ n := fun e => by subst e; exact hn hx
        omega
      omega

/-- Cycles' lengths lie between 1 and n. -/
theorem cycs_lens {n : Nat} (hn : n ≤ 16) {p : Nat → Nat} (hp : Perm n p) : ∀ l ∈ cycs p n, 1 ≤ l.length ∧ l.length ≤ n := by
  have h := cyTo_inv hn hp n (Nat.le_refl _)
  intro l hl
  obtain ⟨j, hj, e⟩ := List.mem_iff_getElem.1 hl
  have e2 : (cycs p n).getD j [] = l := by rw [List.getD_eq_getElem?_getD, List.getElem?_eq_getElem hj]; exact e
  have h1 := h.pos j hj
  have h2 := h.nodup j
  have h3 := h.lt j
  change 0 < ((cycs p n).getD j []).length at h1
  change ((cycs p n).getD j []).Nodup at h2
  change ∀ x, x ∈ (cycs p n).getD j [] → x < n at h3
  rw [e2] at h1 h2 h3
  refine ⟨h1, ?_⟩
  exact nodup_len n l h2 h3

end Go.Proofs.Ytakapfgjdhliaaa

/- Least common multiples, as they are made step by step. -/
namespace Go.Proofs.Ytakapfgjdhliaaa
open Go.RowKit DM
set_option linter.unusedVariables false

/-- The least common multiple of the first i numbers. -/
def lcmTo (l : List Nat) : Nat → Nat
  | 0 => 1
  | i + 1 => lcmTo l i / Nat.gcd (lcmTo l i) (l.getD i 0) * l.getD i 0

theorem lcmTo_dvd {l : List Nat} (h : ∀ x ∈ l, 1 ≤ x ∧ x ≤ 16) : ∀ i, i ≤ l.length → lcmTo l i ∣ 720720 ∧ 0 < lcmTo l i
  | 0, _ => ⟨Nat.one_dvd _, Nat.one_pos⟩
  | i + 1, hi => by
    obtain ⟨h1, h2⟩ := lcmTo_dvd h i (by omega)
    have hx := h (l.getD i 0) (by rw [List.getD_eq_getElem?_getD, List.getElem?_eq_getElem (by omega)]; exact List.getElem_mem _)
    simp only [lcmTo]
    generalize l.getD i 0 = x at *
    generalize lcmTo l i = a at *
    have hg := Nat.gcd_dvd_left a x
    have e : a / Nat.gcd a x * x = Nat.lcm a x := by
      unfold Nat.lcm
      rw [Nat.mul_comm, ← Nat.mul_div_assoc _ hg, Nat.mul_comm]
    rw [e]
    refine ⟨Nat.lcm_dvd h1 ?_, Nat.lcm_pos h2 (by omega)⟩
    have : x = 1 ∨ x = 2 ∨ x = 3 ∨ x = 4 ∨ x = 5 ∨ x = 6 ∨ x = 7 ∨ x = 8 ∨ x = 9 ∨ x = 10 ∨ x = 11 ∨ x = 12 ∨ x = 13 ∨ x = 14 ∨ x = 15 ∨ x = 16 := by omega
    rcases this with rfl | rfl | rfl | rfl | rfl | rfl | rfl | rfl | rfl | rfl | rfl | rfl | rfl | rfl | rfl | rfl <;> exact Nat.dvd_of_mod_eq_zero (by decide)

theorem lcmTo_le {l : List Nat} (h : ∀ x ∈ l, 1 ≤ x ∧ x ≤ 16) {i : Nat} (hi : i ≤ l.length) : 0 < lcmTo l i ∧ lcmTo l i ≤ 720720 := by
  obtain ⟨h1, h2⟩ := lcmTo_dvd h i hi
  exact ⟨h2, Nat.le_of_dvd (by omega) h1⟩

end Go.Proofs.Ytakapfgjdhliaaa
