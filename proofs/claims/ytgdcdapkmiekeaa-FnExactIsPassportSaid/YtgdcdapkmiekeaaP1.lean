/- The law of passports on plain lists. -/
import Derived.Test.YtgdcdapkmiekeaaPA3
namespace Go.Proofs.Ytgdcdapkmiekeaa.PurePass
open Go.RowKit Go.Proofs.Ytgdcdapkmiekeaa.PFnExactIsPassport Go.Proofs.YtgdcdapkmiekeaaW.PrintWords Go.Proofs.YtgdcdapkmiekeaaW.PrintLast
set_option linter.unusedVariables false
set_option linter.unusedSimpArgs false

/-- For all great enough k. -/
def Ev {α : Type} (g : Nat → Option α) (v : α) : Prop := ∃ K, ∀ k, K ≤ k → g k = some v
theorem Ev.s {α : Type} {g : Nat → Option α} {v : α} : Ev (fun k => g (k + 1)) v → Ev g v := fun ⟨K, h⟩ => ⟨K + 1, fun k hk => by
  obtain ⟨j, rfl⟩ : ∃ j, k = j + 1 := ⟨k - 1, by omega⟩
  exact h j (by omega)⟩
theorem Ev.pure {α : Type} {v : α} : Ev (fun _ => some v) v := ⟨0, fun _ _ => rfl⟩
theorem Ev.bind {α β : Type} {g : Nat → Option α} {f : Nat → α → Option β} {v : α} {u : β} : Ev g v → Ev (fun k => f k v) u → Ev (fun k => (g k).bind (f k)) u := fun ⟨K, h⟩ ⟨J, h'⟩ => ⟨K + J, fun k hk => by
  show (g k).bind (f k) = some u
  rw [h k (by omega)]; exact h' k (by omega)⟩
theorem w1 (i : Nat) (h : i < 9223372036854775807) : wrap64 ((i : Int) + 1) = ((i + 1 : Nat) : Int) := by rw [IntWalk.wrap64_in _ (by omega)]; omega
theorem wp (i : Nat) (h : i < 9223372036854775807) : wrap64 (((i + 1 : Nat) : Int) - 1) = (i : Int) := by rw [IntWalk.wrap64_in _ (by omega)]; omega
theorem rdN (l : List Int) (i : Nat) : rd l (i : Int) = l.getD i 0 := rfl

theorem toI (x0 : List Int) (hb : x0.length < 4611686018427387904) : ∀ m i x3, i + m = x0.length → x3.length = x0.length → (∀ j, j < i → x3.getD j 0 = x0.getD j 0) → Ev (fun k => laws_toInt64S.l0 k x0 x3 (i : Int)) x0
  | 0, i, x3, h1, h2, h3 => by
    refine Ev.s ?_
    simp only [laws_toInt64S.l0, if_neg (show ¬ ((i : Int) < x0.length) by omega)]
    have : x3 = x0 := by
      apply List.ext_getElem h2
      intro j g1 g2
      have := h3 j (by omega)
      simpa [List.getD_eq_getElem?_getD, List.getElem?_eq_getElem g1, List.getElem?_eq_getElem g2] using this
    subst this
    exact Ev.pure
  | m + 1, i, x3, h1, h2, h3 => by
    refine Ev.s ?_
    simp only [laws_toInt64S.l0, if_pos (show ((i : Int) < x0.length) by omega), if_pos (show (0 : Int) ≤ i by omega), if_pos (show ((i : Int) < x3.length) by omega), w1 i (by omega), rdN]
    refine toI x0 hb m (i + 1) _ (by omega) (by simpa using h2) ?_
    intro j hj
    by_cases e : j = i
    · subst e
      have : (j : Int).toNat = j := rfl
      rw [this]
      simp only [List.getD_eq_getElem?_getD]
      rw [List.getElem?_set_self (by omega)]
      rfl
    · have : (i : Int).toNat = i := rfl
      rw [this]
      simp only [List.getD_eq_getElem?_getD]
      rw [List.getElem?_set_ne (by omega)]
      simpa only [List.getD_eq_getElem?_getD] using h3 j (by omega)

theorem toI_f (l : List Int) (hb : l.length ≤ 1048576) : Ev (fun k => laws_toInt64S.f k l) l := by
  unfold laws_toInt64S.f
  simp only [if_pos (show (0 : Int) ≤ l.length by omega), if_pos (show (l.length : Int).toNat ≤ 35184372088832 by omega)]
  exact toI l (by omega) l.length 0 _ (by omega) (by simp) (fun j hj => by omega)

theorem eqI (l : List Int) (hb : l.length ≤ 1048576) : ∀ m i, i + m = l.length → Ev (fun k => laws_eqInt64S.l0 k l l (i : Int)) true
  | 0, i, h => by
    refine Ev.s ?_
    simp only [laws_eqInt64S.l0, if_neg (show ¬ ((i : Int) < l.length) by omega)]
    exact Ev.pure
  | m + 1, i, h => by
    refine Ev.s ?_
    simp only [laws_eqInt64S.l0, if_pos (show ((i : Int) < l.length) by omega), if_pos (show (0 : Int) ≤ i by omega), if_true, w1 i (by omega)]
    exact eqI l hb m (i + 1) (by omega)

theorem eqI_f (l : List Int) (hb : l.length ≤ 1048576) : Ev (fun k => laws_eqInt64S.f k l l) true := by
  unfold laws_eqInt64S.f
  simp only [if_true]
  exact eqI l hb l.length 0 (by omega)

/-- The sum of the first i. -/
def ps (l : List Int) : Nat → Int
  | 0 => 0
  | i + 1 => ps l i + l.getD i 0
def Good (l : List Int) (j : Nat) : Prop := (1 ≤ l.getD j 0 ∧ l.getD j 0 ≤ 16) ∧ (0 < j → l.getD j 0 ≤ l.getD (j - 1) 0)
def Ty (l : List Int) : Prop := (1 ≤ l.length ∧ l.length ≤ 16) ∧ (∀ j, j < l.length → Good l j) ∧ ps l l.length ≤ 16

theorem ps_mono {l : List Int} {n : Nat} (h : ∀ j, j < n → Good l j) : ∀ m i, i + m = n → ps l i + m ≤ ps l n
  | 0, i, e => by have : i = n := by omega
                  subst this; simp
  | m + 1, i, e => by
    have h1 := ps_mono h m (i + 1) (by omega)
    have h2 := (h i (by omega)).1.1
    simp only [ps] at h1
    omega

theorem sumI (l : List Int) (hn : l.length ≤ 16) (hg : ∀ j, j < l.length → Good l j) : ∀ m i, i + m = l.length → ps l i ≤ 16 * i → 0 ≤ ps l i → Ev (fun k => spec_l04Sum.l0 k l (ps l i) (i : Int)) (ps l l.length)
  | 0, i, h, _, _ => by
    refine Ev.s ?_
    simp only [spec_l04Sum.l0, if_neg (show ¬ ((i : Int) < l.length) by omega)]
    have : i = l.length := by omega
    subst this
    exact Ev.pure
  | m + 1, i, h, h2, h3 => by
    have g := (hg i (by omega)).1
    refine Ev.s ?_
    simp only [spec_l04Sum.l0, if_pos (show ((i : Int) < l.length) by omega), if_pos (show (0 : Int) ≤ i by omega), w1 i (by omega), rdN]
    rw [IntWalk.wrap64_in _ (by omega)]
    exact sumI l hn hg m (i + 1) (by omega) (by simp only [ps]; omega) (by simp only [ps]; omega)

theorem in_f (a b c : Int) : spec_l01In.f a b c = some (decide (b ≤ a ∧ a ≤ c)) := by
  unfold spec_l01In.f
  by_cases h : b ≤ a
  · rw [if_pos h]; simp [h]
  · rw [if_neg h]; simp [h]

theorem good_bad {l : List Int} {i : Nat} (h : ¬ Good l i) : (l.getD i 0 < 1 ∨ 16 < l.getD i 0) ∨ (0 < i ∧ l.getD (i - 1) 0 < l.getD i 0) := by
  unfold Good at h
  omega

theorem typeL (l : List Int) (hn : l.length ≤ 16) : ∀ m i, i + m = l.length →
    ((∀ j, j < l.length → Good l j) → Ev (fun k => spec_l04Type.l0 k l (i : Int)) (decide (ps l l.length ≤ 16))) ∧ (∀ j0, i ≤ j0 → j0 < l.length → ¬ Good l j0 → Ev (fun k => spec_l04Type.l0 k l (i : Int)) false)
  | 0, i, h => by
    refine ⟨fun hg => ?_, fun j0 h1 h2 h3 => by omega⟩
    refine Ev.s ?_
    simp only [spec_l04Type.l0, if_neg (show ¬ ((i : Int) < l.length) by omega)]
    exact Ev.bind (f := fun _ t => some (decide (t ≤ 16))) (sumI l hn hg l.length 0 (by omega) (by simp [ps]) (by simp [ps])) Ev.pure
  | m + 1, i, h => by
    have ih := typeL l hn m (i + 1) (by omega)
    have step : Good l i → ∀ v, Ev (fun k => spec_l04Type.l0 k l ((i + 1 : Nat) : Int)) v → Ev (fun k => spec_l04Type.l0 k l (i : Int)) v := by
      intro g v hv
      refine Ev.s ?_
      simp only [spec_l04Type.l0, if_pos (show ((i : Int) < l.length) by omega), if_pos (show (0 : Int) ≤ i by omega), in_f, Option.bind_some]
      obtain ⟨g1, g2⟩ := g
      rw [show decide (1 ≤ rd l (i : Int) ∧ rd l (i : Int) ≤ 16) = true from decide_eq_true g1]
      simp only [if_true]
      rw [w1 i (by omega)]
      cases i with
      | zero => exact hv
      | succ i =>
        rw [wp i (by omega)]
        have g3 := g2 (by omega)
        simp only [Nat.add_sub_cancel] at g3
        simp only [if_pos (show (((i + 1 : Nat) : Int) > 0) by omega), if_pos (show (0 : Int) ≤ i by omega), if_pos (show ((i : Int) < l.length) by omega), if_neg (show ¬ (rd l ((i + 1 : Nat) : Int) > rd l (i : Int)) by rw [rdN, rdN]; omega)]
        exact hv
    refine ⟨fun hg => step (hg i (by omega)) _ (ih.1 hg), fun j0 h1 h2 h3 => ?_⟩
    by_cases g : Good l i
    · have hne : j0 ≠ i := fun e => h3 (e ▸ g)
      exact step g _ (ih.2 j0 (by omega) h2 h3)
    · refine Ev.s ?_
      simp only [spec_l04Type.l0, if_pos (show ((i : Int) < l.length) by omega), if_pos (show (0 : Int) ≤ i by omega), in_f, Option.bind_some]
      rcases Decidable.em (1 ≤ l.getD i 0 ∧ l.getD i 0 ≤ 16) with g1 | g1
      · rw [show decide (1 ≤ rd l (i : Int) ∧ rd l (i : Int) ≤ 16) = true from decide_eq_true g1]
        simp only [if_true]
        rcases good_bad g with g2 | ⟨g2, g3⟩
        · omega
        · cases i with
          | zero => omega
          | succ i =>
            rw [wp i (by omega)]
            simp only [Nat.add_sub_cancel] at g3
            simp only [if_pos (show (((i + 1 : Nat) : Int) > 0) by omega), if_pos (show (0 : Int) ≤ i by omega), if_pos (show ((i : Int) < l.length) by omega), if_pos (show (rd l ((i + 1 : Nat) : Int) > rd l (i : Int)) by rw [rdN, rdN]; omega)]
            exact Ev.pure
      · rw [show decide (1 ≤ rd l (i : Int) ∧ rd l (i : Int) ≤ 16) = false from decide_eq_false g1]
        exact Ev.pure

noncomputable def tyB (l : List Int) : Bool := @decide (Ty l) (Classical.propDecidable _)
theorem tyB_pos {l : List Int} (h : Ty l) : tyB l = true := by exact @decide_eq_true _ (Classical.propDecidable _) h
theorem tyB_neg {l : List Int} (h : ¬ Ty l) : tyB l = false := by exact @decide_eq_false _ (Classical.propDecidable _) h
noncomputable def tyV (l : List Int) : Int := bif tyB l then ps l l.length else 0
theorem tyV_pos {l : List Int} (h : Ty l) : tyV l = ps l l.length := by unfold tyV; rw [tyB_pos h]; rfl
theorem tyV_neg {l : List Int} (h : ¬ Ty l) : tyV l = 0 := by unfold tyV; rw [tyB_neg h]; rfl

theorem type_f (l : List Int) : Ev (fun k => spec_l04Type.f k l) (tyB l) := by
  unfold spec_l04Type.f
  by_cases h1 : l.length < 1
  · simp only [if_pos (show (l.length : Int) < 1 by omega)]
    refine Ev.s ?_
    rw [show tyB l = false from tyB_neg (fun h => by have := h.1.1; omega)]
    simp only [spec_l04Type.j0, if_true]
    exact Ev.pure
  · simp only [if_neg (show ¬ (l.length : Int) < 1 by omega)]
    refine Ev.s ?_
    by_cases h2 : l.length ≤ 16
    · rw [show decide ((l.length : Int) > 16) = false from decide_eq_false (by omega)]
      simp only [spec_l04Type.j0, Bool.false_eq_true, if_false]
      by_cases hg : ∀ j, j < l.length → Good l j
      · have := (typeL l h2 l.length 0 (by omega)).1 hg
        have e : tyB l = decide (ps l l.length ≤ 16) := by
          by_cases h3 : ps l l.length ≤ 16
          · rw [decide_eq_true h3]; exact tyB_pos ⟨⟨by omega, h2⟩, hg, h3⟩
          · rw [decide_eq_false h3]; exact tyB_neg fun h => h3 h.2.2
        rw [e]
        exact this
      · obtain ⟨j, hj⟩ := Classical.not_forall.1 hg
        obtain ⟨hj1, hj2⟩ := Classical.not_imp.1 hj
        rw [show tyB l = false from tyB_neg (fun h => hg h.2.1)]
        exact (typeL l h2 l.length 0 (by omega)).2 j (by omega) hj1 hj2
    · rw [show decide ((l.length : Int) > 16) = true from decide_eq_true (by omega), show tyB l = false from tyB_neg (fun h => h2 h.1.2)]
      simp only [spec_l04Type.j0, if_true]
      exact Ev.pure

theorem sumL (l : List Int) (hb : l.length ≤ 1048576) : ∀ m i, i + m = l.length → (∀ j, j < i → Good l j) → ps l i ≤ 16 → 0 ≤ ps l i → Ev (fun k => impl_sumOfType.l0 k l (ps l i) l (l.length : Int) (i : Int)) (tyV l)
  | 0, i, h, hg, hs, hs0 => by
    refine Ev.s ?_
    have : i = l.length := by omega
    subst this
    simp only [impl_sumOfType.l0, if_neg (show ¬ ((l.length : Int) < l.length) by omega)]
    have hm := ps_mono hg l.length 0 (by omega)
    simp only [ps] at hm
    by_cases hT : Ty l
    · rw [tyV_pos hT]; exact Ev.pure
    · rw [tyV_neg hT]
      have : l.length = 0 := by
        refine Classical.byContradiction fun e => hT ⟨⟨by omega, by omega⟩, hg, hs⟩
      have : ps l l.length = 0 := by rw [this]; rfl
      rw [this]; exact Ev.pure
  | m + 1, i, h, hg, hs, hs0 => by
    refine Ev.s ?_
    simp only [impl_sumOfType.l0, if_pos (show ((i : Int) < l.length) by omega), if_pos (show (0 : Int) ≤ i by omega)]
    have bad : ¬ Ty l → Ev (fun k => impl_sumOfType.j1 k l (ps l i) (rd l (i : Int)) l (l.length : Int) (i : Int) true) (tyV l) := by
      intro hT
      refine Ev.s ?_
      rw [tyV_neg hT]
      simp only [impl_sumOfType.j1, if_true]
      exact Ev.pure
    have ok : Good l i → Ev (fun k => impl_sumOfType.j1 k l (ps l i) (rd l (i : Int)) l (l.length : Int) (i : Int) false) (tyV l) := by
      intro g
      have g1 : 1 ≤ rd l (i : Int) ∧ rd l (i : Int) ≤ 16 := g.1
      refine Ev.s ?_
      simp only [impl_sumOfType.j1, Bool.false_eq_true, if_false]
      rw [IntWalk.wrap64_in _ (by omega), w1 i (by omega)]
      have hg' : ∀ j, j < i + 1 → Good l j := fun j hj => by
        rcases Nat.lt_succ_iff_lt_or_eq.1 hj with h | rfl
        · exact hg j h
        · exact g
      by_cases h16 : ps l i + rd l (i : Int) > 16
      · simp only [if_pos h16]
        rw [tyV_neg (fun hT : Ty l => by
          have := ps_mono hT.2.1 m (i + 1) (by omega)
          have := hT.2.2
          simp only [ps] at *
          have e := rdN l i
          omega)]
        exact Ev.pure
      · simp only [if_neg h16]
        exact sumL l hb m (i + 1) (by omega) hg' (by simp only [ps]; rw [rdN] at *; omega) (by simp only [ps]; rw [rdN] at *; omega)
    by_cases a1 : rd l (i : Int) < 1
    · simp only [if_pos a1]; exact bad fun hT => by have := (hT.2.1 i (by omega)).1; rw [rdN] at *; omega
    · simp only [if_neg a1]
      by_cases a2 : rd l (i : Int) > 16
      · simp only [if_pos a2]; exact bad fun hT => by have := (hT.2.1 i (by omega)).1; rw [rdN] at *; omega
      · simp only [if_neg a2]
        cases i with
        | zero => exact ok ⟨⟨by rw [rdN] at *; omega, by rw [rdN] at *; omega⟩, fun h => by omega⟩
        | succ i =>
          rw [wp i (by omega)]
          simp only [if_pos (show (((i + 1 : Nat) : Int) > 0) by omega), if_pos (show (0 : Int) ≤ i by omega), if_pos (show ((i : Int) < l.length) by omega)]
          by_cases a3 : rd l ((i + 1 : Nat) : Int) > rd l (i : Int)
          · rw [show decide (rd l ((i + 1 : Nat) : Int) > rd l (i : Int)) = true from decide_eq_true a3]
            exact bad fun hT => by have := (hT.2.1 (i + 1) (by omega)).2 (by omega); simp only [Nat.add_sub_cancel] at this; rw [rdN, rdN] at a3; omega
          · rw [show decide (rd l ((i + 1 : Nat) : Int) > rd l (i : Int)) = false from decide_eq_false a3]
            exact ok ⟨⟨by rw [rdN] at *; omega, by rw [rdN] at *; omega⟩, fun _ => by simp only [Nat.add_sub_cancel]; rw [rdN, rdN] at a3; omega⟩

theorem sum_f (l : List Int) (hb : l.length ≤ 1048576) : Ev (fun k => impl_sumOfType.f k l) (tyV l) :=
  sumL l hb l.length 0 (by omega) (fun j hj => by omega) (by simp [ps]) (by simp [ps])


theorem rdL (l : List (List Int)) (i : Nat) : rd_L1 l (i : Int) = l.getD i [] := rfl

/-- What is left after all lists: a number, and if it is none below 0, no list is long. -/
theorem szSS (l : List (List Int)) (hb : l.length < 9223372036854775807) (hl : ∀ j, (l.getD j []).length ≤ 9223372036854775807) : ∀ m i (left : Int), i + m = l.length → 0 ≤ left → left ≤ 1048576 →
    ∃ r, Ev (fun k => laws_szInt64SS.l0 k l left (i : Int)) r ∧ (0 ≤ r → ∀ j, i ≤ j → j < l.length → (l.getD j []).length ≤ 1048576)
  | 0, i, left, h, h0, h1 => by
    refine ⟨left, Ev.s ?_, fun _ j _ _ => by omega⟩
    simp only [laws_szInt64SS.l0, if_neg (show ¬ ((i : Int) < l.length) by omega)]
    exact Ev.pure
  | m + 1, i, left, h, h0, h1 => by
    have hli := hl i
    have hw : wrap64 (left - ((l.getD i []).length : Int)) = left - ((l.getD i []).length : Int) := IntWalk.wrap64_in _ (by omega)
    by_cases hneg : left - ((l.getD i []).length : Int) < 0
    · refine ⟨-1, Ev.s ?_, fun h => by omega⟩
      simp only [laws_szInt64SS.l0, if_pos (show ((i : Int) < l.length) by omega), if_pos (show (0 : Int) ≤ i by omega), rdL, laws_szInt64S.f, hw, if_pos hneg, Option.bind_some, if_pos (show ((-1 : Int) < 0) by omega)]
      exact Ev.pure
    · obtain ⟨r, hr, hr2⟩ := szSS l hb hl m (i + 1) (left - ((l.getD i []).length : Int)) (by omega) (by omega) (by omega)
      refine ⟨r, Ev.s ?_, fun h0 j hj hj2 => ?_⟩
      · simp only [laws_szInt64SS.l0, if_pos (show ((i : Int) < l.length) by omega), if_pos (show (0 : Int) ≤ i by omega), rdL, laws_szInt64S.f, hw, if_neg hneg, Option.bind_some, w1 i (by omega)]
        exact hr
      · by_cases e : j = i
        · subst e; omega
        · exact hr2 h0 j (by omega) hj2

theorem toSS (l : List (List Int)) (hb : l.length ≤ 1048576) (hl : ∀ j, j < l.length → (l.getD j []).length ≤ 1048576) : ∀ m i x3, i + m = l.length → x3.length = l.length → (∀ j, j < i → x3.getD j [] = l.getD j []) → Ev (fun k => laws_toInt64SS.l0 k l x3 (i : Int)) l
  | 0, i, x3, h1, h2, h3 => by
    refine Ev.s ?_
    simp only [laws_toInt64SS.l0, if_neg (show ¬ ((i : Int) < l.length) by omega)]
    have : x3 = l := by
      apply List.ext_getElem h2
      intro j g1 g2
      have := h3 j (by omega)
      simpa [List.getD_eq_getElem?_getD, List.getElem?_eq_getElem g1, List.getElem?_eq_getElem g2] using this
    subst this
    exact Ev.pure
  | m + 1, i, x3, h1, h2, h3 => by
    refine Ev.s ?_
    simp only [laws_toInt64SS.l0, if_pos (show ((i : Int) < l.length) by omega), if_pos (show (0 : Int) ≤ i by omega), rdL]
    refine Ev.bind (f := fun k t125 => if (i : Int) < (x3.length : Int) then (laws_toInt64SS.l0 k l (x3.set (i : Int).toNat t125) (wrap64 ((i : Int) + 1))) else none) (toI_f (l.getD i []) (hl i (by omega))) ?_
    simp only [if_pos (show ((i : Int) < x3.length) by omega), w1 i (by omega)]
    refine toSS l hb hl m (i + 1) _ (by omega) (by simpa using h2) ?_
    intro j hj
    by_cases e : j = i
    · subst e
      have : (j : Int).toNat = j := rfl
      rw [this]
      simp only [List.getD_eq_getElem?_getD]
      rw [List.getElem?_set_self (by omega)]
      rfl
    · have : (i : Int).toNat = i := rfl
      rw [this]
      simp only [List.getD_eq_getElem?_getD]
      rw [List.getElem?_set_ne (by omega)]
      simpa only [List.getD_eq_getElem?_getD] using h3 j (by omega)

theorem toSS_f (l : List (List Int)) (hb : l.length ≤ 1048576) (hl : ∀ j, j < l.length → (l.getD j []).length ≤ 1048576) : Ev (fun k => laws_toInt64SS.f k l) l := by
  unfold laws_toInt64SS.f
  simp only [if_pos (show (0 : Int) ≤ l.length by omega), if_pos (show (l.length : Int).toNat ≤ 11728124029610 by omega)]
  exact toSS l hb hl l.length 0 _ (by omega) (by simp) (fun j hj => by omega)

theorem eqSS (l : List (List Int)) (hb : l.length ≤ 1048576) (hl : ∀ j, j < l.length → (l.getD j []).length ≤ 1048576) : ∀ m i, i + m = l.length → Ev (fun k => laws_eqInt64SS.l0 k l l (i : Int)) true
  | 0, i, h => by
    refine Ev.s ?_
    simp only [laws_eqInt64SS.l0, if_neg (show ¬ ((i : Int) < l.length) by omega)]
    exact Ev.pure
  | m + 1, i, h => by
    refine Ev.s ?_
    simp only [laws_eqInt64SS.l0, if_pos (show ((i : Int) < l.length) by omega), if_pos (show (0 : Int) ≤ i by omega), rdL]
    refine Ev.bind (f := fun k t142 => if t142 = true then (laws_eqInt64SS.l0 k l l (wrap64 ((i : Int) + 1))) else some false) (eqI_f (l.getD i []) (hl i (by omega))) ?_
    simp only [if_true, w1 i (by omega)]
    exact eqSS l hb hl m (i + 1) (by omega)

theorem eqSS_f (l : List (List Int)) (hb : l.length ≤ 1048576) (hl : ∀ j, j < l.length → (l.getD j []).length ≤ 1048576) : Ev (fun k => laws_eqInt64SS.f k l l) true := by
  unfold laws_eqInt64SS.f
  simp only [if_true]
  exact eqSS l hb hl l.length 0 (by omega)

theorem tyV_iff (l : List Int) : tyB l = decide (0 < tyV l) := by
  by_cases h : Ty l
  · rw [tyV_pos h, tyB_pos h]
    have hm := ps_mono h.2.1 l.length 0 (by omega)
    simp only [ps] at hm
    have h1 := h.1.1
    exact (decide_eq_true (by omega)).symm
  · rw [tyV_neg h, tyB_neg h]; rfl

theorem sum_of_ty {l : List Int} (h : tyB l = true) : Ev (fun k => spec_l04Sum.f k l) (tyV l) := by
  have hT : Ty l := by
    refine Classical.byContradiction fun hn => ?_
    rw [tyB_neg hn] at h; cases h
  rw [tyV_pos hT]
  exact sumI l hT.1.2 hT.2.1 l.length 0 (by omega) (by simp [ps]) (by simp [ps])

/-- From list i on all are types with the sum of the first one. -/
noncomputable def isFrom (l : List (List Int)) : Nat → Bool
  | 0 => true
  | m + 1 => tyB (l.getD (2 - m) []) && (decide (tyV (l.getD (2 - m) []) = tyV (l.getD 0 [])) && isFrom l m)

theorem isL (l : List (List Int)) (h3 : l.length = 3) : ∀ m i : Nat, i + m = 3 → (0 < i → tyB (l.getD 0 []) = true) → Ev (fun k => spec_l04Is.l0 k l (i : Int)) (isFrom l m)
  | 0, i, h, _ => by
    refine Ev.s ?_
    simp only [spec_l04Is.l0, if_neg (show ¬ ((i : Int) < 3) by omega)]
    exact Ev.pure
  | m + 1, i, h, h0 => by
    have ei : 2 - m = i := by omega
    refine Ev.s ?_
    simp only [spec_l04Is.l0, if_pos (show ((i : Int) < 3) by omega), if_pos (show (0 : Int) ≤ i by omega), if_pos (show ((i : Int) < l.length) by omega), rdL, isFrom, ei]
    have rd0 : rd_L1 l 0 = l.getD 0 [] := rfl
    cases ht : tyB (l.getD i [])
    · refine Ev.bind (f := fun k t110 => _) (ht ▸ type_f (l.getD i [])) ?_
      simp only [Bool.false_eq_true, if_false, Bool.false_and]
      exact Ev.pure
    · have ht0 : tyB (l.getD 0 []) = true := by
        by_cases e : i = 0
        · subst e; exact ht
        · exact h0 (by omega)
      refine Ev.bind (f := fun k t110 => _) (ht ▸ type_f (l.getD i [])) ?_
      simp only [if_true, Bool.true_and]
      refine Ev.bind (f := fun k t112 => _) (sum_of_ty ht) ?_
      simp only [if_pos (show ((0 : Int) < l.length) by omega), rd0]
      refine Ev.bind (f := fun k t114 => _) (sum_of_ty ht0) ?_
      by_cases he : tyV (l.getD i []) = tyV (l.getD 0 [])
      · simp only [if_pos he, decide_eq_true he, Bool.true_and, w1 i (by omega)]
        exact isL l h3 m (i + 1) (by omega) (fun _ => ht0)
      · simp only [if_neg he, decide_eq_false he, Bool.false_and]
        exact Ev.pure

noncomputable def isB (l : List (List Int)) : Bool := decide (l.length = 3) && isFrom l 3

theorem specIs (l : List (List Int)) : Ev (fun k => spec_IsPassport.f k l) (isB l) := by
  have h : Ev (fun k => spec_l04Is.f k l) (isB l) := by
    unfold spec_l04Is.f isB
    by_cases h3 : l.length = 3
    · simp only [if_pos (show (l.length : Int) = 3 by omega), decide_eq_true h3, Bool.true_and]
      exact isL l h3 3 0 (by omega) (fun h => by omega)
    · simp only [if_neg (show ¬ (l.length : Int) = 3 by omega), decide_eq_false h3, Bool.false_and]
      exact Ev.pure
  obtain ⟨K, h⟩ := h
  exact ⟨K, fun k hk => by have h1 : spec_l04Is.f k l = some (isB l) := h k hk; show spec_IsPassport.f k l = _; unfold spec_IsPassport.f; rw [h1]; rfl⟩

theorem implIs (l : List (List Int)) (hl : ∀ j, j < l.length → (l.getD j []).length ≤ 1048576) : Ev (fun k => impl_IsPassport.f k l) (isB l) := by
  have key : ∃ v, Ev (fun k => impl_sumOfPassport.f k l) v ∧ isB l = decide (v > 0) := by
    unfold impl_sumOfPassport.f isB
    by_cases h3 : l.length = 3
    · simp only [if_pos (show (l.length : Int) = 3 by omega), if_pos (show (0 : Int) < l.length by omega), if_pos (show (1 : Int) < l.length by omega), if_pos (show (2 : Int) < l.length by omega), decide_eq_true h3, Bool.true_and]
      have s0 := sum_f (l.getD 0 []) (hl 0 (by omega))
      have s1 := sum_f (l.getD 1 []) (hl 1 (by omega))
      have s2 := sum_f (l.getD 2 []) (hl 2 (by omega))
      have r0 : rd_L1 l 0 = l.getD 0 [] := rfl
      have r1 : rd_L1 l 1 = l.getD 1 [] := rfl
      have r2 : rd_L1 l 2 = l.getD 2 [] := rfl
      simp only [r0, r1, r2, isFrom, tyV_iff]
      generalize tyV (l.getD 0 []) = v0 at *
      generalize tyV (l.getD 1 []) = v1 at *
      generalize tyV (l.getD 2 []) = v2 at *
      by_cases e1 : v1 = v0
      · by_cases e2 : v2 = v0
        · refine ⟨v0, ?_, ?_⟩
          · refine Ev.bind (f := fun k t132 => _) s0 ?_
            refine Ev.bind (f := fun k t134 => _) s1 ?_
            simp only [if_pos e1]
            refine Ev.bind (f := fun k t136 => _) s2 ?_
            simp only [if_pos e2]
            exact Ev.pure
          · rw [e1, e2]
            by_cases hv : 0 < v0
            · simp [hv]
            · simp [hv]
        · refine ⟨0, ?_, ?_⟩
          · refine Ev.bind (f := fun k t132 => _) s0 ?_
            refine Ev.bind (f := fun k t134 => _) s1 ?_
            simp only [if_pos e1]
            refine Ev.bind (f := fun k t136 => _) s2 ?_
            simp only [if_neg e2]
            exact Ev.pure
          · simp [e2]
      · refine ⟨0, ?_, ?_⟩
        · refine Ev.bind (f := fun k t132 => _) s0 ?_
          refine Ev.bind (f := fun k t134 => _) s1 ?_
          simp only [if_neg e1]
          exact Ev.pure
        · simp [e1]
    · refine ⟨0, ?_, ?_⟩
      · simp only [if_neg (show ¬ (l.length : Int) = 3 by omega)]
        exact Ev.pure
      · rw [decide_eq_false h3]; rfl
  obtain ⟨v, hv, e⟩ := key
  rw [e]
  unfold impl_IsPassport.f
  exact Ev.bind (f := fun _ t => some (decide (t > 0))) hv Ev.pure

theorem law (l : List (List Int)) (hb : l.length < 9223372036854775807) (hl : ∀ j, (l.getD j []).length ≤ 9223372036854775807) : ∃ k, laws_FnExactIsPassport.f k l = some true := by
  suffices h : Ev (fun k => laws_FnExactIsPassport.f k l) true by
    obtain ⟨K, h⟩ := h
    exact ⟨K, h K (Nat.le_refl _)⟩
  unfold laws_FnExactIsPassport.f
  by_cases h20 : (1048576 : Int) - (l.length : Int) < 0
  · have hw : wrap64 (1048576 - (l.length : Int)) = 1048576 - (l.length : Int) := IntWalk.wrap64_in _ (by omega)
    have : Ev (fun k => laws_szInt64SS.f k l 1048576) (-1) := by
      unfold laws_szInt64SS.f
      simp only [hw, if_pos h20]
      exact Ev.pure
    refine Ev.bind (f := fun k t143 => _) this ?_
    simp only [if_pos (show ((-1 : Int) < 0) by omega)]
    exact Ev.pure
  · have hw : wrap64 (1048576 - (l.length : Int)) = 1048576 - (l.length : Int) := IntWalk.wrap64_in _ (by omega)
    obtain ⟨r, hr, hr2⟩ := szSS l hb hl l.length 0 (1048576 - (l.length : Int)) (by omega) (by omega) (by omega)
    have hsz : Ev (fun k => laws_szInt64SS.f k l 1048576) r := by
      unfold laws_szInt64SS.f
      simp only [hw, if_neg h20]
      exact hr
    refine Ev.bind (f := fun k t143 => _) hsz ?_
    by_cases h0 : r < 0
    · simp only [if_pos h0]
      exact Ev.pure
    · have hl' : ∀ j, j < l.length → (l.getD j []).length ≤ 1048576 := fun j hj => hr2 (by omega) j (by omega) hj
      have hb' : l.length ≤ 1048576 := by omega
      simp only [if_neg h0]
      refine Ev.bind (f := fun k t144 => _) (toSS_f l hb' hl') ?_
      refine Ev.bind (f := fun k t147 => _) (specIs l) ?_
      refine Ev.bind (f := fun k t148 => _) (toSS_f l hb' hl') ?_
      refine Ev.bind (f := fun k t151 => _) (implIs l hl') ?_
      simp only [bne_self_eq_false, Bool.false_eq_true, if_false]
      refine Ev.bind (f := fun k t152 => _) (toSS_f l hb' hl') ?_
      refine Ev.bind (f := fun k t155 => _) (eqSS_f l hb' hl') ?_
      simp only [if_true]
      exact Ev.pure

end Go.Proofs.Ytgdcdapkmiekeaa.PurePass
