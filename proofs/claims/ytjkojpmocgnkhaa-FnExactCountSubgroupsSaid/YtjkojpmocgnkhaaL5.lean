/- Counting subgroups, on plain numbers. -/
import Derived.Test.YtjkojpmocgnkhaaL3
namespace Go.Proofs.Ytjkojpmocgnkhaa
open Go.RowKit DM

def fct : Nat → Nat
  | 0 => 1
  | n + 1 => (n + 1) * fct n

theorem fct_pos : ∀ n, 1 ≤ fct n
  | 0 => Nat.le_refl _
  | n + 1 => by
    have := fct_pos n
    simp only [fct]
    exact Nat.le_trans this (Nat.le_mul_of_pos_left _ (by omega))

theorem fct_mono {a b : Nat} (h : a ≤ b) : fct a ≤ fct b := by
  induction b with
  | zero => have : a = 0 := by omega
            subst this; exact Nat.le_refl _
  | succ b ih =>
    by_cases e : a = b + 1
    · subst e; exact Nat.le_refl _
    · refine Nat.le_trans (ih (by omega)) ?_
      simp only [fct]
      exact Nat.le_mul_of_pos_left _ (by omega)

theorem fct_le {n : Nat} (h : n ≤ 14) : fct n ≤ 87178291200 := Nat.le_trans (fct_mono h) (by decide)

def intsF (l : List Int) (j : Nat) : Dat := .i .i64 (l.getD j 0)

theorem ap_ints (l : List Int) (y : Int) (z : Dat) (j : Nat) (hj : j < l.length + 1) : intsF (l ++ [y]) j = apF l.length (intsF l) 0 (fup (fun _ => z) 0 (.i .i64 y)) j := by
  unfold apF intsF
  by_cases h : j < l.length
  · rw [blt_true h, getD_snoc_lt l y 0 h]; rfl
  · have e : j = l.length := by omega
    subst e
    rw [blt_false (Nat.lt_irrefl _), getD_snoc]
    simp [fup]

def nowF (c : List Int) (m : Nat) : Nat → Int
  | 0 => ((m * fct m : Nat) : Int)
  | j + 1 => IntKind.i64.wrap (nowF c m j - IntKind.i64.wrap (((fct (m - (j + 1)) : Nat) : Int) * c.getD (j + 1) 0))

def cntsF : Nat → List Int
  | 0 => [0]
  | m + 1 => cntsF m ++ [nowF (cntsF m) (m + 1) m]

theorem cntsF_len : ∀ m, (cntsF m).length = m + 1
  | 0 => rfl
  | m + 1 => by simp [cntsF, cntsF_len m]

end Go.Proofs.Ytjkojpmocgnkhaa
