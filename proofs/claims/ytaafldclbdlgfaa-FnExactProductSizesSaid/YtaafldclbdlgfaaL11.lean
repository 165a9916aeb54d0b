import Derived.Test.YtaafldclbdlgfaaL10
/- Types of permutations: the lengths of the cycles, sorted downwards, and counted downwards. -/
namespace Go.Proofs.Ytaafldclbdlgfaa
open Go.RowKit DM
set_option linter.unusedVariables false

def srtN (l : List Nat) : List Nat := l.mergeSort fun x y => decide (x ≤ y)

theorem srtN_len (l : List Nat) : (srtN l).length = l.length := (List.mergeSort_perm _ _).length_eq

theorem nodup_len : ∀ (n : Nat) (l : List Nat), l.Nodup → (∀ x ∈ l, x < n) → l.length ≤ n
  | 0, l, _, h => by
    cases l with
    | nil => simp
    | cons a l => exact absurd (h a (by simp)) (Nat.not_lt_zero _)
  | n + 1, l, hd, h => by
    by_cases hn : n ∈ l
    · have h1 := nodup_len n (l.erase n) (hd.erase n) fun x hx => by
        have h2 := h x (List.mem_of_mem_erase hx)
        have h3 : x ≠ n := fun e => by subst e; exact hd.not_mem_erase hx
        omega
      have h2 := List.length_erase_of_mem hn
      omega
    · have := nodup_len n l hd fun x hx => by
        have h2 := h x hx
        have h3 : x ≠ n := fun e => by subst e; exact hn hx
        omega
      omega

end Go.Proofs.Ytaafldclbdlgfaa
