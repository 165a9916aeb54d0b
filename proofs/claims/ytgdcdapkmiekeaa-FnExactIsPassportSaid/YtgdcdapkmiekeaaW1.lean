/- From the row's own words on a slice of slices of numbers to the words of the print. -/
import Derived.Test.YtgdcdapkmiekeaaRows
import Derived.WalkKit
import Derived.ProofKit
import Derived.OpenShut
import Derived.ShutString
import Derived.ChangeOld
import Derived.SizedLaws
import Derived.Test.YtgdcdapkmiekeaaWWords
import Derived.Deep.Slices
import Derived.ChangeSlices
namespace Go.Proofs.Ytgdcdapkmiekeaa
open Go.ChangeShapes Go.WideShapes Go.ChangeAt Go.RowKit Go.Proofs.YtgdcdapkmiekeaaW.PrintWords

theorem getD_range {α : Type} (V : Nat → α) (x : α) : ∀ (n j : Nat), j < n → ((List.range n).map V).getD j x = V j := by
  intro n j h
  simp [List.getD_eq_getElem?_getD, h]

/-- One row inside. -/
theorem open_ints_C {H : Type} {enc : TypeId × Value → H} {P : Program} {w : World} {base : Nat} {spare : Nat → Bool} {held : Bool} {t e : TypeId} {k : IntKind} {fuel : Nat} {v : Value} {x : DataW H × List MemPlace} (ht : P.underlying t = some (.slice e)) (he : P.underlying e = some (.int k)) (hc : P.cellsOf e = 1)
    (h : DataW.trod enc P w base spare held fuel t [v] = some x) : ∃ (A : Option Addr) (c : Nat) (l : List Int), v = .slice A l.length c ∧ l.length ≤ c ∧ l.length ≤ 9223372036854775807 ∧ Kd.C (Kd.int k) w A l.length l := by
  rcases open_ints ht he hc h with ⟨hcs, _⟩ | ⟨a, len, cap, zs, hcs, _, hl, hm, hz, _, hcell, _⟩
  · simp only [List.cons.injEq, and_true] at hcs
    subst hcs
    exact ⟨none, 0, [], rfl, Nat.le_refl _, by simp, rfl, by simp, fun h => by simp at h⟩
  · simp only [List.cons.injEq, and_true] at hcs
    subst hcs
    have hl2 : len ≤ zs.length := by
      rw [hz]
      split
      · exact hl
      · exact Nat.le_refl _
    have e1 : (zs.take len).length = len := by simp [hl2]
    have hm2 : len ≤ 9223372036854775807 := by
      have : maxLen = 9223372036854775807 := rfl
      omega
    refine ⟨some a, cap, zs.take len, by rw [e1], by omega, by omega, rfl, by omega, fun _ => ⟨a, rfl, fun j p hj => ⟨[.int k p], rfl, rfl, fun i u hi => ?_⟩⟩⟩
    have hj1 := (List.getElem?_eq_some_iff.1 hj)
    obtain ⟨hj2, hj3⟩ := hj1
    have hj4 : j < len := by omega
    cases i with
    | succ i => simp at hi
    | zero =>
      simp only [List.getElem?_cons_zero, Option.some.injEq] at hi
      subst hi
      have e2 : zs.getD j 0 = p := by
        rw [List.getElem_take] at hj3
        rw [List.getD_eq_getElem?_getD, List.getElem?_eq_getElem (by omega)]
        exact hj3
      have := hcell j (by omega)
      rw [e2] at this
      show w.cell? (a.add (j * 1 + 0)) = _
      simpa using this

/-- A slice of rows. -/
theorem open_rows {H : Type} {enc : TypeId × Value → H} {P : Program} {w : World} {base : Nat} {spare : Nat → Bool} {held : Bool} {t u e : TypeId} {k : IntKind} {fuel n2 : Nat} {v : Value} {x : DataW H × List MemPlace} (ht : P.underlying t = some (.slice u)) (hu : P.underlying u = some (.slice e)) (he : P.underlying e = some (.int k)) (hcu : P.cellsOf u = 1) (hc : P.cellsOf e = 1)
    (h : DataW.trod enc P w base spare held fuel t [v] = some x) : ∃ (A : Option Addr) (c : Nat) (l : List (List Int)), v = .slice A l.length c ∧ l.length ≤ c ∧ l.length ≤ 9223372036854775807 ∧ Kd.C (Kd.slice n2 (Kd.int k)) w A l.length l ∧ (∀ j, (l.getD j []).length ≤ 9223372036854775807) ∧
      (l = [] ∨ ∃ ds ss, x.1 = .slice ds ss ∧ ds.length = l.length) := by
  rcases Go.Deep.open_slice1 ht hcu h with ⟨hcs, _⟩ | ⟨a, len, cap, m, n, V, D, Pl, hcs, _, hl, hm, hmm, rfl, hel⟩
  · simp only [List.cons.injEq, and_true] at hcs
    subst hcs
    exact ⟨none, 0, [], rfl, Nat.le_refl _, by simp, ⟨rfl, by simp, fun h => by simp at h⟩, by simp, .inl rfl⟩
  · simp only [List.cons.injEq, and_true] at hcs
    subst hcs
    have hlm : len ≤ m := by
      rw [hmm]
      split
      · exact hl
      · exact Nat.le_refl _
    have key : ∀ i, ∃ (A : Option Addr) (c : Nat) (l : List Int), (i < len → V i = .slice A l.length c ∧ l.length ≤ c ∧ Kd.C (Kd.int k) w A l.length l) ∧ l.length ≤ 9223372036854775807 := by
      intro i
      by_cases hi : i < len
      · obtain ⟨A, c, l, h1, h2, h3, h4⟩ := open_ints_C hu he hc (hel i (by omega)).2
        exact ⟨A, c, l, fun _ => ⟨h1, h2, h4⟩, h3⟩
      · exact ⟨none, 0, [], fun h => absurd h hi, by simp⟩
    obtain ⟨A, key⟩ := Classical.axiomOfChoice key
    obtain ⟨c, key⟩ := Classical.axiomOfChoice key
    obtain ⟨l, hk⟩ := Classical.axiomOfChoice key
    have e1 : ((List.range len).map l).length = len := by simp
    have hm2 : len ≤ 9223372036854775807 := by
      have : maxLen = 9223372036854775807 := rfl
      omega
    refine ⟨some a, cap, (List.range len).map l, by rw [e1], by omega, by omega, ⟨rfl, by omega, fun _ => ⟨a, rfl, fun j p hj => ?_⟩⟩, fun j => ?_, .inr ⟨_, _, rfl, by simp⟩⟩
    · obtain ⟨hj2, hj3⟩ := List.getElem?_eq_some_iff.1 hj
      have hj4 : j < len := by omega
      simp only [List.getElem_map, List.getElem_range] at hj3
      subst hj3
      obtain ⟨h1, h2, h3⟩ := (hk j).1 hj4
      refine ⟨[V j], rfl, ⟨A j, c j, by rw [h1], h2, h3⟩, fun i u hi => ?_⟩
      cases i with
      | succ i => simp at hi
      | zero =>
        simp only [List.getElem?_cons_zero, Option.some.injEq] at hi
        subst hi
        have := (hel j (by omega)).1
        show w.cell? (a.add (j * 1 + 0)) = _
        simpa using this
    · by_cases hj : j < len
      · rw [getD_range _ _ _ _ hj]; exact (hk j).2
      · rw [List.getD_eq_getElem?_getD, List.getElem?_eq_none (by simp; omega)]
        simp

end Go.Proofs.Ytgdcdapkmiekeaa
