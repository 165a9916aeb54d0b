/- Canonical dessins: what both sides compute. -/
import Derived.Test.YtgdcdapkmiekeaaX23
import Derived.Test.YtgdcdapkmiekeaaX13
import Derived.Test.YtgdcdapkmiekeaaL4
namespace Go.Proofs.Ytgdcdapkmiekeaa
open Go.RowKit DM

/-- The order of arrays. -/
def cmpF (p q : Nat → Nat) : Nat → Nat → Int
  | 0, _ => 0
  | m + 1, i => if p i < q i then -1 else if q i < p i then 1 else cmpF p q m (i + 1)

theorem u8_lt {a b : Nat} (ha : a < 256) (hb : b < 256) : (((a : Nat) : Int).toNat.toUInt8 < ((b : Nat) : Int).toNat.toUInt8) ↔ a < b := by
  rw [UInt8.lt_iff_toNat_lt]
  simp only [Int.toNat_natCast, Nat.toUInt8_eq, UInt8.toNat_ofNat']
  rw [Nat.mod_eq_of_lt (by omega), Nat.mod_eq_of_lt (by omega)]

theorem cmp_range {p q : Nat → Nat} (hp : ∀ i, p i < 256) (hq : ∀ i, q i < 256) : ∀ m i, Lib.compareBytes ((List.range' i m).map fun i => (((p i : Nat) : Int).toNat).toUInt8) ((List.range' i m).map fun i => (((q i : Nat) : Int).toNat).toUInt8) = cmpF p q m i
  | 0, i => rfl
  | m + 1, i => by
    rw [List.range'_succ, List.map_cons, List.map_cons]
    unfold Lib.compareBytes cmpF
    rw [cmp_range hp hq m (i + 1)]
    by_cases h1 : p i < q i
    · rw [if_pos ((u8_lt (hp i) (hq i)).2 h1), if_pos h1]
    · rw [if_neg (fun h => h1 ((u8_lt (hp i) (hq i)).1 h)), if_neg h1]
      by_cases h2 : q i < p i
      · rw [if_pos ((u8_lt (hq i) (hp i)).2 h2), if_pos h2]
      · rw [if_neg (fun h => h2 ((u8_lt (hq i) (hp i)).1 h)), if_neg h2]

theorem cmp_bys {p q : Nat → Nat} (hp : ∀ i, p i < 256) (hq : ∀ i, q i < 256) : Lib.compareBytes (bys p) (bys q) = cmpF p q 16 0 := by
  rw [← cmp_range hp hq 16 0]
  unfold bys
  rw [List.range_eq_range']

theorem cmpF_zero (p q : Nat → Nat) : ∀ m i, cmpF p q m i = 0 ↔ ∀ j, i ≤ j → j < i + m → p j = q j
  | 0, i => by simp only [cmpF, true_iff]; intro j h1 h2; omega
  | m + 1, i => by
    unfold cmpF
    by_cases h1 : p i < q i
    · rw [if_pos h1]
      refine ⟨fun h => by omega, fun h => ?_⟩
      have := h i (Nat.le_refl _) (by omega)
      omega
    · rw [if_neg h1]
      by_cases h2 : q i < p i
      · rw [if_pos h2]
        refine ⟨fun h => by omega, fun h => ?_⟩
        have := h i (Nat.le_refl _) (by omega)
        omega
      · rw [if_neg h2, cmpF_zero p q m (i + 1)]
        refine ⟨fun h j h3 h4 => ?_, fun h j h3 h4 => h j (by omega) (by omega)⟩
        by_cases e : j = i
        · subst e; omega
        · exact h j (by omega) (by omega)

/-- The order of dessins. -/
def cdF (b w b' w' : Nat → Nat) : Int := if cmpF b b' 16 0 ≠ 0 then cmpF b b' 16 0 else cmpF w w' 16 0

def candB (N : Nat) (b w : Nat → Nat) (x : Nat) : Nat → Nat := renTo (nameF b w x) b N
def candW (N : Nat) (b w : Nat → Nat) (x : Nat) : Nat → Nat := renTo (nameF b w x) w N
/-- The least of the first. -/
def canF (N : Nat) (b w : Nat → Nat) : Nat → (Nat → Nat) × (Nat → Nat)
  | 0 => (candB N b w 0, candW N b w 0)
  | k + 1 => if cdF (candB N b w (k + 1)) (candW N b w (k + 1)) (canF N b w k).1 (canF N b w k).2 < 0 then (candB N b w (k + 1), candW N b w (k + 1)) else canF N b w k

theorem renTo_lt16 {p b : Nat → Nat} (hp : ∀ i, p i < 16) : ∀ k i, renTo p b k i < 16
  | 0, i => by simp [renTo]
  | k + 1, i => by
    simp only [renTo, up]
    split
    · exact hp _
    · exact renTo_lt16 hp k i

theorem canF_lt {N : Nat} {b w : Nat → Nat} (hN : N ≤ 16) (hb : ∀ i, i < N → b i < N) (hw : ∀ i, i < N → w i < N) : ∀ k, k < N → (∀ i, (canF N b w k).1 i < 256) ∧ ∀ i, (canF N b w k).2 i < 256
  | 0, h0 => ⟨fun i => Nat.lt_trans (renTo_lt16 (fun i => nameF_lt hN hb hw h0 i) _ i) (by omega), fun i => Nat.lt_trans (renTo_lt16 (fun i => nameF_lt hN hb hw h0 i) _ i) (by omega)⟩
  | k + 1, hk => by
    unfold canF
    split
    · exact ⟨fun i => Nat.lt_trans (renTo_lt16 (fun i => nameF_lt hN hb hw hk i) _ i) (by omega), fun i => Nat.lt_trans (renTo_lt16 (fun i => nameF_lt hN hb hw hk i) _ i) (by omega)⟩
    · exact canF_lt hN hb hw k (by omega)
end Go.Proofs.Ytgdcdapkmiekeaa
