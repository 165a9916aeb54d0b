import Derived.Test.YtlmphggfokoeiaaDoorL10
import Derived.Test.YtlmphggfokoeiaaDoorD24
import Derived.Lib.ItoaNum
import Derived.Lib.Join
/- Texts of dessins, pure. -/
namespace Go.Proofs.YtlmphggfokoeiaaDoor
open Go.RowKit DM
set_option linter.unusedVariables false
set_option linter.unusedSimpArgs false

/-- A text of bytes. -/
def strB (l : List UInt8) : Dat := .s ⟨l.toArray⟩
theorem app_mk (a b : List UInt8) : ((⟨a.toArray⟩ : ByteArray) ++ ⟨b.toArray⟩) = ⟨(a ++ b).toArray⟩ := by
  apply ByteArray.ext
  simp [ByteArray.data_append]
theorem size_mk (a : List UInt8) : (⟨a.toArray⟩ : ByteArray).size = a.length := by
  simp [ByteArray.size]

/-- Numbers below ten, and below a hundred. -/
theorem dec_low {n : Nat} (h : n < 10) : Lib.decDigits n = [UInt8.ofNat (48 + n)] := by unfold Lib.decDigits; rw [dif_pos h]
theorem dec_high {n : Nat} (h : ¬ n < 10) : Lib.decDigits n = Lib.decDigits (n / 10) ++ [UInt8.ofNat (48 + n % 10)] := by rw [Lib.decDigits]; rw [dif_neg h]
theorem dec_len {n : Nat} (h : n < 100) : (Lib.decDigits n).length ≤ 2 := by
  by_cases h1 : n < 10
  · rw [dec_low h1]; simp
  · rw [dec_high h1, dec_low (by omega)]; simp

/-- The first k numbers, with blanks between them. -/
def numL (l : List Nat) : Nat → List UInt8
  | 0 => []
  | k + 1 => (numL l k ++ if 0 < k then [32] else []) ++ Lib.decDigits (l.getD k 0)

theorem numL_len {l : List Nat} (h : ∀ x ∈ l, x < 100) : ∀ k, k ≤ l.length → (numL l k).length ≤ 3 * k
  | 0, _ => Nat.le_refl _
  | k + 1, hk => by
    have ih := numL_len h k (by omega)
    have hd := dec_len (h _ (getD_mem (show k < l.length by omega)))
    simp only [numL, List.length_append]
    split
    · simp only [List.length_cons, List.length_nil]; omega
    · simp only [List.length_nil]; omega

theorem numL_join {l : List Nat} : ∀ k, k ≤ l.length → numL l k = Lib.join ((l.take k).map Lib.decDigits) [32]
  | 0, _ => by simp [numL, Lib.join_nil]
  | k + 1, hk => by
    have ih := numL_join (l := l) k (by omega)
    have ht : l.take (k + 1) = l.take k ++ [l.getD k 0] := by
      rw [List.take_succ_eq_append_getElem (show k < l.length by omega)]
      simp [List.getD_eq_getElem?_getD, List.getElem?_eq_getElem (show k < l.length by omega)]
    rw [ht, List.map_append]
    simp only [numL, ih, List.map_cons, List.map_nil]
    unfold Lib.join
    cases k with
    | zero => simp [List.intercalate]
    | succ k =>
      rw [if_pos (by omega)]
      have hne : (l.take (k + 1)).map Lib.decDigits ≠ [] := by
        intro e
        have := congrArg List.length e
        rw [List.length_map, List.length_take, List.length_nil] at this
        omega
      generalize (l.take (k + 1)).map Lib.decDigits = xs at *
      clear ih ht
      induction xs with
      | nil => exact absurd rfl hne
      | cons a xs ih =>
        cases xs with
        | nil => simp [List.intercalate]
        | cons b xs =>
          have := ih (by simp)
          simp only [List.cons_append]
          simp only [List.intercalate, List.intersperse, List.cons_append, List.flatten_cons, List.append_assoc] at this ⊢
          rw [this]

/-- The cycles of more than one number. -/
def plcL (L : List (List Nat)) : Nat → List UInt8
  | 0 => []
  | k + 1 => if 1 < (L.getD k []).length then plcL L k ++ ([40] ++ numL (L.getD k []) (L.getD k []).length ++ [41]) else plcL L k
def plcT (p : Nat → Nat) (n : Nat) : List UInt8 := if plcL (cycs p n) (cycs p n).length = [] then [40, 41] else plcL (cycs p n) (cycs p n).length
def desT (N : Nat) (b w : Nat → Nat) : List UInt8 := ((Lib.decDigits N ++ [124]) ++ plcT b N) ++ [124] ++ plcT w N

theorem plcL_len {L : List (List Nat)} (h : ∀ k, (∀ x ∈ L.getD k [], x < 100) ∧ (L.getD k []).length ≤ 16) : ∀ k, (plcL L k).length ≤ 50 * k
  | 0 => Nat.le_refl _
  | k + 1 => by
    have ih := plcL_len h k
    have hn := numL_len (h k).1 _ (Nat.le_refl _)
    have hl := (h k).2
    simp only [plcL]
    split
    · simp only [List.length_append, List.length_cons, List.length_nil]; omega
    · omega

theorem plcT_len {p : Nat → Nat} {n : Nat} (hn : n ≤ 16) (hp : ∀ i, i < n → p i < n) : (plcT p n).length ≤ 1000 := by
  have h := plcL_len (L := cycs p n) (fun k => ⟨fun x hx => by have := (cycs_ok hn hp (j := k)).2 x hx; omega, (cycs_ok hn hp (j := k)).1⟩) (cycs p n).length
  have hl : (cycs p n).length ≤ n := cyTo_len p n
  unfold plcT
  split
  · simp
  · omega

end Go.Proofs.YtlmphggfokoeiaaDoor
