/- The law on plain lists. -/
import Derived.Test.YtjkojpmocgnkhaaPFnExactCentraliserOfx2
import Derived.Test.YtjkojpmocgnkhaaWSized
-- The printed row calls this name without the letter W of its words.
theorem Go.Proofs.Ytjkojpmocgnkhaa.PrintWords.sized_ints : type_of% @Go.Proofs.YtjkojpmocgnkhaaW.PrintWords.sized_ints := @Go.Proofs.YtjkojpmocgnkhaaW.PrintWords.sized_ints
namespace Go.Proofs.Ytjkojpmocgnkhaa.Pure
open Go.RowKit Go.Proofs.Ytjkojpmocgnkhaa.PFnExactCentraliserOf Go.Proofs.YtjkojpmocgnkhaaW.PrintWords Go.Proofs.YtjkojpmocgnkhaaW.PrintLast

/-- For all great enough k. -/
def Ev {α : Type} (g : Nat → Option α) (v : α) : Prop := ∃ K, ∀ k, K ≤ k → g k = some v
theorem Ev.s {α : Type} {g : Nat → Option α} {v : α} : Ev (fun k => g (k + 1)) v → Ev g v := fun ⟨K, h⟩ => ⟨K + 1, fun k hk => by
  obtain ⟨j, rfl⟩ : ∃ j, k = j + 1 := ⟨k - 1, by omega⟩
  exact h j (by omega)⟩
theorem Ev.pure {α : Type} {v : α} : Ev (fun _ => some v) v := ⟨0, fun _ _ => rfl⟩
theorem Ev.bind {α β : Type} {g : Nat → Option α} {f : Nat → α → Option β} {v : α} {u : β} : Ev g v → Ev (fun k => f k v) u → Ev (fun k => (g k).bind (f k)) u := fun ⟨K, h⟩ ⟨J, h'⟩ => ⟨K + J, fun k hk => by
  show (g k).bind (f k) = some u
  rw [h k (by omega)]; exact h' k (by omega)⟩
theorem w1 (i : Nat) (h : i < 9223372036854775807) : wrap64 ((i : Int) + 1) = ((i + 1 : Nat) : Int) := by rw [IntWalk.wrap64_in _ (by omega)]; omega
theorem wp (i : Nat) (h : i < 9223372036854775807) : wrap64 (((i + 1 : Nat) : Int) - 1) = (i : Int) := by rw [IntWalk.wrap64_in _ (by omega)]; omega
theorem rdN (l : List Int) (i : Nat) : rd l (i : Int) = l.getD i 0 := rfl

theorem toI (x0 : List Int) (hb : x0.length < 4611686018427387904) : ∀ m i x3, i + m = x0.length → x3.length = x0.length → (∀ j, j < i → x3.getD j 0 = x0.getD j 0) → Ev (fun k => laws_toInt64S.l0 k x0 x3 (i : Int)) x0
  | 0, i, x3, h1, h2, h3 => by
    refine Ev.s ?_
    simp only [laws_toInt64S.l0, if_neg (show ¬ ((i : Int) < x0.length) by omega)]
    have : x3 = x0 := by
      apply List.ext_getElem h2
      intro j g1 g2
      have := h3 j (by omega)
      simpa [List.getD_eq_getElem?_getD, List.getElem?_eq_getElem g1, List.getElem?_eq_getElem g2] using this
    subst this
    exact Ev.pure
  | m + 1, i, x3, h1, h2, h3 => by
    refine Ev.s ?_
    simp only [laws_toInt64S.l0, if_pos (show ((i : Int) < x0.length) by omega), if_pos (show (0 : Int) ≤ i by omega), if_pos (show ((i : Int) < x3.length) by omega), w1 i (by omega), rdN]
    refine toI x0 hb m (i + 1) _ (by omega) (by simpa using h2) ?_
    intro j hj
    by_cases e : j = i
    · subst e
      have : (j : Int).toNat = j := rfl
      rw [this]
      simp only [List.getD_eq_getElem?_getD]
      rw [List.getElem?_set_self (by omega)]
      rfl
    · have : (i : Int).toNat = i := rfl
      rw [this]
      simp only [List.getD_eq_getElem?_getD]
      rw [List.getElem?_set_ne (by omega)]
      simpa only [List.getD_eq_getElem?_getD] using h3 j (by omega)

theorem toI_f (l : List Int) (hb : l.length ≤ 1048576) : Ev (fun k => laws_toInt64S.f k l) l := by
  unfold laws_toInt64S.f
  simp only [if_pos (show (0 : Int) ≤ l.length by omega), if_pos (show (l.length : Int).toNat ≤ 35184372088832 by omega)]
  exact toI l (by omega) l.length 0 _ (by omega) (by simp) (fun j hj => by omega)

theorem eqI (l : List Int) (hb : l.length ≤ 1048576) : ∀ m i, i + m = l.length → Ev (fun k => laws_eqInt64S.l0 k l l (i : Int)) true
  | 0, i, h => by
    refine Ev.s ?_
    simp only [laws_eqInt64S.l0, if_neg (show ¬ ((i : Int) < l.length) by omega)]
    exact Ev.pure
  | m + 1, i, h => by
    refine Ev.s ?_
    simp only [laws_eqInt64S.l0, if_pos (show ((i : Int) < l.length) by omega), if_pos (show (0 : Int) ≤ i by omega), if_true, w1 i (by omega)]
    exact eqI l hb m (i + 1) (by omega)

theorem eqI_f (l : List Int) (hb : l.length ≤ 1048576) : Ev (fun k => laws_eqInt64S.f k l l) true := by
  unfold laws_eqInt64S.f
  simp only [if_true]
  exact eqI l hb l.length 0 (by omega)

/-- The sum of the first i. -/
def ps (l : List Int) : Nat → Int
  | 0 => 0
  | i + 1 => ps l i + l.getD i 0
def Good (l : List Int) (j : Nat) : Prop := (1 ≤ l.getD j 0 ∧ l.getD j 0 ≤ 16) ∧ (0 < j → l.getD j 0 ≤ l.getD (j - 1) 0)
def Ty (l : List Int) : Prop := (1 ≤ l.length ∧ l.length ≤ 16) ∧ (∀ j, j < l.length → Good l j) ∧ ps l l.length ≤ 16

theorem ps_mono {l : List Int} {n : Nat} (h : ∀ j, j < n → Good l j) : ∀ m i, i + m = n → ps l i + m ≤ ps l n
  | 0, i, e => by have : i = n := by omega
                  subst this; simp
  | m + 1, i, e => by
    have h1 := ps_mono h m (i + 1) (by omega)
    have h2 := (h i (by omega)).1.1
    simp only [ps] at h1
    omega

theorem sumI (l : List Int) (hn : l.length ≤ 16) (hg : ∀ j, j < l.length → Good l j) : ∀ m i, i + m = l.length → ps l i ≤ 16 * i → 0 ≤ ps l i → Ev (fun k => spec_l04Sum.l0 k l (ps l i) (i : Int)) (ps l l.length)
  | 0, i, h, _, _ => by
    refine Ev.s ?_
    simp only [spec_l04Sum.l0, if_neg (show ¬ ((i : Int) < l.length) by omega)]
    have : i = l.length := by omega
    subst this
    exact Ev.pure
  | m + 1, i, h, h2, h3 => by
    have g := (hg i (by omega)).1
    refine Ev.s ?_
    simp only [spec_l04Sum.l0, if_pos (show ((i : Int) < l.length) by omega), if_pos (show (0 : Int) ≤ i by omega), w1 i (by omega), rdN]
    rw [IntWalk.wrap64_in _ (by omega)]
    exact sumI l hn hg m (i + 1) (by omega) (by simp only [ps]; omega) (by simp only [ps]; omega)

theorem in_f (a b c : Int) : spec_l01In.f a b c = some (decide (b ≤ a ∧ a ≤ c)) := by
  unfold spec_l01In.f
  by_cases h : b ≤ a
  · rw [if_pos h]; simp [h]
  · rw [if_neg h]; simp [h]

theorem good_bad {l : List Int} {i : Nat} (h : ¬ Good l i) : (l.getD i 0 < 1 ∨ 16 < l.getD i 0) ∨ (0 < i ∧ l.getD (i - 1) 0 < l.getD i 0) := by
  unfold Good at h
  omega

theorem typeL (l : List Int) (hn : l.length ≤ 16) : ∀ m i, i + m = l.length →
    ((∀ j, j < l.length → Good l j) → Ev (fun k => spec_l04Type.l0 k l (i : Int)) (decide (ps l l.length ≤ 16))) ∧ (∀ j0, i ≤ j0 → j0 < l.length → ¬ Good l j0 → Ev (fun k => spec_l04Type.l0 k l (i : Int)) false)
  | 0, i, h => by
    refine ⟨fun hg => ?_, fun j0 h1 h2 h3 => by omega⟩
    refine Ev.s ?_
    simp only [spec_l04Type.l0, if_neg (show ¬ ((i : Int) < l.length) by omega)]
    exact Ev.bind (f := fun _ t => some (decide (t ≤ 16))) (sumI l hn hg l.length 0 (by omega) (by simp [ps]) (by simp [ps])) Ev.pure
  | m + 1, i, h => by
    have ih := typeL l hn m (i + 1) (by omega)
    have step : Good l i → ∀ v, Ev (fun k => spec_l04Type.l0 k l ((i + 1 : Nat) : Int)) v → Ev (fun k => spec_l04Type.l0 k l (i : Int)) v := by
      intro g v hv
      refine Ev.s ?_
      simp only [spec_l04Type.l0, if_pos (show ((i : Int) < l.length) by omega), if_pos (show (0 : Int) ≤ i by omega), in_f, Option.bind_some]
      obtain ⟨g1, g2⟩ := g
      rw [show decide (1 ≤ rd l (i : Int) ∧ rd l (i : Int) ≤ 16) = true from decide_eq_true g1]
      simp only [if_true]
      rw [w1 i (by omega)]
      cases i with
      | zero => exact hv
      | succ i =>
        rw [wp i (by omega)]
        have g3 := g2 (by omega)
        simp only [Nat.add_sub_cancel] at g3
        simp only [if_pos (show (((i + 1 : Nat) : Int) > 0) by omega), if_pos (show (0 : Int) ≤ i by omega), if_pos (show ((i : Int) < l.length) by omega), if_neg (show ¬ (rd l ((i + 1 : Nat) : Int) > rd l (i : Int)) by rw [rdN, rdN]; omega)]
        exact hv
    refine ⟨fun hg => step (hg i (by omega)) _ (ih.1 hg), fun j0 h1 h2 h3 => ?_⟩
    by_cases g : Good l i
    · have hne : j0 ≠ i := fun e => h3 (e ▸ g)
      exact step g _ (ih.2 j0 (by omega) h2 h3)
    · refine Ev.s ?_
      simp only [spec_l04Type.l0, if_pos (show ((i : Int) < l.length) by omega), if_pos (show (0 : Int) ≤ i by omega), in_f, Option.bind_some]
      rcases Decidable.em (1 ≤ l.getD i 0 ∧ l.getD i 0 ≤ 16) with g1 | g1
      · rw [show decide (1 ≤ rd l (i : Int) ∧ rd l (i : Int) ≤ 16) = true from decide_eq_true g1]
        simp only [if_true]
        rcases good_bad g with g2 | ⟨g2, g3⟩
        · omega
        · cases i with
          | zero => omega
          | succ i =>
            rw [wp i (by omega)]
            simp only [Nat.add_sub_cancel] at g3
            simp only [if_pos (show (((i + 1 : Nat) : Int) > 0) by omega), if_pos (show (0 : Int) ≤ i by omega), if_pos (show ((i : Int) < l.length) by omega), if_pos (show (rd l ((i + 1 : Nat) : Int) > rd l (i : Int)) by rw [rdN, rdN]; omega)]
            exact Ev.pure
      · rw [show decide (1 ≤ rd l (i : Int) ∧ rd l (i : Int) ≤ 16) = false from decide_eq_false g1]
        exact Ev.pure

noncomputable def tyB (l : List Int) : Bool := @decide (Ty l) (Classical.propDecidable _)
theorem tyB_pos {l : List Int} (h : Ty l) : tyB l = true := by exact @decide_eq_true _ (Classical.propDecidable _) h
theorem tyB_neg {l : List Int} (h : ¬ Ty l) : tyB l = false := by exact @decide_eq_false _ (Classical.propDecidable _) h
noncomputable def tyV (l : List Int) : Int := bif tyB l then ps l l.length else 0
theorem tyV_pos {l : List Int} (h : Ty l) : tyV l = ps l l.length := by unfold tyV; rw [tyB_pos h]; rfl
theorem tyV_neg {l : List Int} (h : ¬ Ty l) : tyV l = 0 := by unfold tyV; rw [tyB_neg h]; rfl

theorem type_f (l : List Int) : Ev (fun k => spec_l04Type.f k l) (tyB l) := by
  unfold spec_l04Type.f
  by_cases h1 : l.length < 1
  · simp only [if_pos (show (l.length : Int) < 1 by omega)]
    refine Ev.s ?_
    rw [show tyB l = false from tyB_neg (fun h => by have := h.1.1; omega)]
    simp only [spec_l04Type.j0, if_true]
    exact Ev.pure
  · simp only [if_neg (show ¬ (l.length : Int) < 1 by omega)]
    refine Ev.s ?_
    by_cases h2 : l.length ≤ 16
    · rw [show decide ((l.length : Int) > 16) = false from decide_eq_false (by omega)]
      simp only [spec_l04Type.j0, Bool.false_eq_true, if_false]
      by_cases hg : ∀ j, j < l.length → Good l j
      · have := (typeL l h2 l.length 0 (by omega)).1 hg
        have e : tyB l = decide (ps l l.length ≤ 16) := by
          by_cases h3 : ps l l.length ≤ 16
          · rw [decide_eq_true h3]; exact tyB_pos ⟨⟨by omega, h2⟩, hg, h3⟩
          · rw [decide_eq_false h3]; exact tyB_neg fun h => h3 h.2.2
        rw [e]
        exact this
      · obtain ⟨j, hj⟩ := Classical.not_forall.1 hg
        obtain ⟨hj1, hj2⟩ := Classical.not_imp.1 hj
        rw [show tyB l = false from tyB_neg (fun h => hg h.2.1)]
        exact (typeL l h2 l.length 0 (by omega)).2 j (by omega) hj1 hj2
    · rw [show decide ((l.length : Int) > 16) = true from decide_eq_true (by omega), show tyB l = false from tyB_neg (fun h => h2 h.1.2)]
      simp only [spec_l04Type.j0, if_true]
      exact Ev.pure

theorem sumL (l : List Int) (hb : l.length ≤ 1048576) : ∀ m i, i + m = l.length → (∀ j, j < i → Good l j) → ps l i ≤ 16 → 0 ≤ ps l i → Ev (fun k => impl_sumOfType.l0 k l (ps l i) l (l.length : Int) (i : Int)) (tyV l)
  | 0, i, h, hg, hs, hs0 => by
    refine Ev.s ?_
    have : i = l.length := by omega
    subst this
    simp only [impl_sumOfType.l0, if_neg (show ¬ ((l.length : Int) < l.length) by omega)]
    have hm := ps_mono hg l.length 0 (by omega)
    simp only [ps] at hm
    by_cases hT : Ty l
    · rw [tyV_pos hT]; exact Ev.pure
    · rw [tyV_neg hT]
      have : l.length = 0 := by
        refine Classical.byContradiction fun e => hT ⟨⟨by omega, by omega⟩, hg, hs⟩
      have : ps l l.length = 0 := by rw [this]; rfl
      rw [this]; exact Ev.pure
  | m + 1, i, h, hg, hs, hs0 => by
    refine Ev.s ?_
    simp only [impl_sumOfType.l0, if_pos (show ((i : Int) < l.length) by omega), if_pos (show (0 : Int) ≤ i by omega)]
    have bad : ¬ Ty l → Ev (fun k => impl_sumOfType.j1 k l (ps l i) (rd l (i : Int)) l (l.length : Int) (i : Int) true) (tyV l) := by
      intro hT
      refine Ev.s ?_
      rw [tyV_neg hT]
      simp only [impl_sumOfType.j1, if_true]
      exact Ev.pure
    have ok : Good l i → Ev (fun k => impl_sumOfType.j1 k l (ps l i) (rd l (i : Int)) l (l.length : Int) (i : Int) false) (tyV l) := by
      intro g
      have g1 : 1 ≤ rd l (i : Int) ∧ rd l (i : Int) ≤ 16 := g.1
      refine Ev.s ?_
      simp only [impl_sumOfType.j1, Bool.false_eq_true, if_false]
      rw [IntWalk.wrap64_in _ (by omega), w1 i (by omega)]
      have hg' : ∀ j, j < i + 1 → Good l j := fun j hj => by
        rcases Nat.lt_succ_iff_lt_or_eq.1 hj with h | rfl
        · exact hg j h
        · exact g
      by_cases h16 : ps l i + rd l (i : Int) > 16
      · simp only [if_pos h16]
        rw [tyV_neg (fun hT : Ty l => by
          have := ps_mono hT.2.1 m (i + 1) (by omega)
          have := hT.2.2
          simp only [ps] at *
          have e := rdN l i
          omega)]
        exact Ev.pure
      · simp only [if_neg h16]
        exact sumL l hb m (i + 1) (by omega) hg' (by simp only [ps]; rw [rdN] at *; omega) (by simp only [ps]; rw [rdN] at *; omega)
    by_cases a1 : rd l (i : Int) < 1
    · simp only [if_pos a1]; exact bad fun hT => by have := (hT.2.1 i (by omega)).1; rw [rdN] at *; omega
    · simp only [if_neg a1]
      by_cases a2 : rd l (i : Int) > 16
      · simp only [if_pos a2]; exact bad fun hT => by have := (hT.2.1 i (by omega)).1; rw [rdN] at *; omega
      · simp only [if_neg a2]
        cases i with
        | zero => exact ok ⟨⟨by rw [rdN] at *; omega, by rw [rdN] at *; omega⟩, fun h => by omega⟩
        | succ i =>
          rw [wp i (by omega)]
          simp only [if_pos (show (((i + 1 : Nat) : Int) > 0) by omega), if_pos (show (0 : Int) ≤ i by omega), if_pos (show ((i : Int) < l.length) by omega)]
          by_cases a3 : rd l ((i + 1 : Nat) : Int) > rd l (i : Int)
          · rw [show decide (rd l ((i + 1 : Nat) : Int) > rd l (i : Int)) = true from decide_eq_true a3]
            exact bad fun hT => by have := (hT.2.1 (i + 1) (by omega)).2 (by omega); simp only [Nat.add_sub_cancel] at this; rw [rdN, rdN] at a3; omega
          · rw [show decide (rd l ((i + 1 : Nat) : Int) > rd l (i : Int)) = false from decide_eq_false a3]
            exact ok ⟨⟨by rw [rdN] at *; omega, by rw [rdN] at *; omega⟩, fun _ => by simp only [Nat.add_sub_cancel]; rw [rdN, rdN] at a3; omega⟩

theorem sum_f (l : List Int) (hb : l.length ≤ 1048576) : Ev (fun k => impl_sumOfType.f k l) (tyV l) :=
  sumL l hb l.length 0 (by omega) (fun j hj => by omega) (by simp [ps]) (by simp [ps])

theorem isType_f (l : List Int) (hb : l.length ≤ 1048576) : Ev (fun k => impl_IsType.f k l) (tyB l) := by
  unfold impl_IsType.f
  refine Ev.bind (f := fun _ t => some (decide (t > 0))) (sum_f l hb) ?_
  by_cases h : Ty l
  · rw [tyV_pos h, tyB_pos h]
    have hm := ps_mono h.2.1 l.length 0 (by omega)
    simp only [ps] at hm
    have h1 := h.1.1
    rw [show decide (ps l l.length > 0) = true from decide_eq_true (by omega)]
    exact Ev.pure
  · rw [tyV_neg h, tyB_neg h]
    exact Ev.pure

theorem w64_add (a b : Int) : wrap64 (a + 18446744073709551616 * b) = wrap64 a := by
  unfold wrap64; omega
theorem w64_ex (a : Int) : ∃ q : Int, wrap64 a = a + 18446744073709551616 * q := by
  unfold wrap64
  exact ⟨-((a + 9223372036854775808) / 18446744073709551616), by omega⟩
theorem w64_mulL (a b : Int) : wrap64 (wrap64 a * b) = wrap64 (a * b) := by
  obtain ⟨q, e⟩ := w64_ex a
  rw [e, show (a + 18446744073709551616 * q) * b = a * b + 18446744073709551616 * (q * b) by rw [Int.add_mul, Int.mul_assoc], w64_add]
theorem w64_mulR (a b : Int) : wrap64 (a * wrap64 b) = wrap64 (a * b) := by
  rw [Int.mul_comm, w64_mulL, Int.mul_comm]

/-- The next number of a run. -/
def run' (l : List Int) (i : Nat) (r : Int) : Int := if 0 < i ∧ l.getD i 0 ≠ l.getD (i - 1) 0 then 1 else wrap64 (r + 1)
/-- The product of the runs' numbers from i on. -/
def RR (l : List Int) : Nat → Nat → Int → Int
  | 0, _, _ => 1
  | m + 1, i, r => run' l i r * RR l m (i + 1) (run' l i r)
def LL (l : List Int) : Nat → Nat → Int
  | 0, _ => 1
  | m + 1, i => l.getD i 0 * LL l m (i + 1)

theorem specC (l : List Int) (hb : l.length ≤ 1048576) : ∀ m i, i + m = l.length → ∀ z r, (i = 0 → r = 0) → Ev (fun k => spec_l04Centraliser.l0 k l (wrap64 z) r (i : Int)) (wrap64 (z * (LL l m i * RR l m i r)))
  | 0, i, h, z, r, hr => by
    refine Ev.s ?_
    simp only [spec_l04Centraliser.l0, if_neg (show ¬ ((i : Int) < l.length) by omega), LL, RR, Int.mul_one]
    exact Ev.pure
  | m + 1, i, h, z, r, hr => by
    have ih := specC l hb m (i + 1) (by omega) (z * (l.getD i 0 * run' l i r)) (run' l i r) (by omega)
    have e : z * (l.getD i 0 * run' l i r) * (LL l m (i + 1) * RR l m (i + 1) (run' l i r)) = z * (LL l (m + 1) i * RR l (m + 1) i r) := by
      simp only [LL, RR]; ac_rfl
    rw [e] at ih
    have e2 : ∀ x : Int, wrap64 (wrap64 (wrap64 z * l.getD i 0) * x) = wrap64 (z * (l.getD i 0 * x)) := fun x => by
      rw [w64_mulL, Int.mul_assoc, w64_mulL]
    refine Ev.s ?_
    simp only [spec_l04Centraliser.l0, if_pos (show ((i : Int) < l.length) by omega), if_pos (show (0 : Int) ≤ i by omega), w1 i (by omega)]
    cases i with
    | zero =>
      simp only [if_neg (show ¬ (((0 : Nat) : Int) > 0) by omega), rdN, e2]
      rw [show run' l 0 r = wrap64 (r + 1) from if_neg (fun h => by omega)] at ih
      exact ih
    | succ i =>
      rw [wp i (by omega)]
      simp only [if_pos (show (((i + 1 : Nat) : Int) > 0) by omega), if_pos (show (0 : Int) ≤ i by omega), if_pos (show ((i : Int) < l.length) by omega)]
      by_cases a : rd l ((i + 1 : Nat) : Int) = rd l (i : Int)
      · simp only [if_pos a]; simp only [rdN, e2]
        rw [show run' l (i + 1) r = wrap64 (r + 1) from if_neg (fun h => h.2 a)] at ih
        exact ih
      · simp only [if_neg a]; simp only [rdN, e2]
        rw [show run' l (i + 1) r = 1 from if_pos ⟨by omega, a⟩] at ih
        exact ih

theorem repC (l : List Int) (hb : l.length ≤ 1048576) : ∀ m i, i + m = l.length → ∀ z r, (i = 0 → r = 0) → Ev (fun k => impl_repeated.l0 k l (wrap64 z) r l (l.length : Int) (i : Int)) (wrap64 (z * RR l m i r))
  | 0, i, h, z, r, hr => by
    refine Ev.s ?_
    simp only [impl_repeated.l0, if_neg (show ¬ ((i : Int) < l.length) by omega), RR, Int.mul_one]
    exact Ev.pure
  | m + 1, i, h, z, r, hr => by
    have ih := repC l hb m (i + 1) (by omega) (z * run' l i r) (run' l i r) (by omega)
    have e : z * run' l i r * RR l m (i + 1) (run' l i r) = z * RR l (m + 1) i r := by
      simp only [RR]; ac_rfl
    rw [e] at ih
    refine Ev.s ?_
    simp only [impl_repeated.l0, if_pos (show ((i : Int) < l.length) by omega), if_pos (show (0 : Int) ≤ i by omega), w1 i (by omega)]
    cases i with
    | zero =>
      have : run' l 0 r = 1 := by
        rw [hr rfl]
        rw [show run' l 0 0 = wrap64 (0 + 1) from if_neg (fun h => by omega)]
        exact IntWalk.wrap64_in _ (by omega)
      rw [this] at ih
      simp only [if_neg (show ¬ (((0 : Nat) : Int) > 0) by omega), w64_mulL]
      exact ih
    | succ i =>
      rw [wp i (by omega)]
      simp only [if_pos (show (((i + 1 : Nat) : Int) > 0) by omega), if_pos (show (0 : Int) ≤ i by omega), if_pos (show ((i : Int) < l.length) by omega)]
      by_cases a : rd l ((i + 1 : Nat) : Int) = rd l (i : Int)
      · simp only [if_pos a, w64_mulL]
        rw [show run' l (i + 1) r = wrap64 (r + 1) from if_neg (fun h => h.2 a)] at ih
        exact ih
      · simp only [if_neg a, w64_mulL]
        rw [show run' l (i + 1) r = 1 from if_pos ⟨by omega, a⟩] at ih
        exact ih

theorem cenC (l : List Int) (hb : l.length ≤ 1048576) : ∀ m i, i + m = l.length → ∀ z, Ev (fun k => impl_centraliser.l0 k (wrap64 z) l (l.length : Int) (i : Int)) (wrap64 (z * LL l m i))
  | 0, i, h, z => by
    refine Ev.s ?_
    simp only [impl_centraliser.l0, if_neg (show ¬ ((i : Int) < l.length) by omega), LL, Int.mul_one]
    exact Ev.pure
  | m + 1, i, h, z => by
    have ih := cenC l hb m (i + 1) (by omega) (z * l.getD i 0)
    have e : z * l.getD i 0 * LL l m (i + 1) = z * LL l (m + 1) i := by
      simp only [LL]; ac_rfl
    rw [e] at ih
    refine Ev.s ?_
    simp only [impl_centraliser.l0, if_pos (show ((i : Int) < l.length) by omega), if_pos (show (0 : Int) ≤ i by omega), w1 i (by omega), w64_mulL]
    exact ih

def cenV (l : List Int) : Int := wrap64 (1 * (LL l l.length 0 * RR l l.length 0 0))
theorem one64 : wrap64 1 = 1 := IntWalk.wrap64_in _ (by omega)

theorem spec_cen (l : List Int) (hb : l.length ≤ 1048576) : Ev (fun k => spec_l04Centraliser.f k l) (cenV l) := by
  have h := specC l hb l.length 0 (by omega) 1 0 (fun _ => rfl)
  rw [one64] at h
  exact h

theorem impl_cen (l : List Int) (hb : l.length ≤ 1048576) : Ev (fun k => impl_centraliser.f k l) (cenV l) := by
  have h := repC l hb l.length 0 (by omega) 1 0 (fun _ => rfl)
  rw [one64] at h
  unfold impl_centraliser.f
  have h1 : Ev (fun k => impl_repeated.f k l) (wrap64 (1 * RR l l.length 0 0)) := h
  refine Ev.bind (f := fun k t126 => _) h1 ?_
  have h2 := cenC l hb l.length 0 (by omega) (1 * RR l l.length 0 0)
  rw [show 1 * RR l l.length 0 0 * LL l l.length 0 = 1 * (LL l l.length 0 * RR l l.length 0 0) by ac_rfl] at h2
  exact h2

noncomputable def cenR (l : List Int) : Int × Int := bif tyB l then (cenV l, 0) else (0, 1)

theorem spec_C (l : List Int) (hb : l.length ≤ 1048576) : Ev (fun k => spec_CentraliserOf.f k l) (cenR l) := by
  unfold spec_CentraliserOf.f
  refine Ev.bind (f := fun k t119 => _) (type_f l) ?_
  unfold cenR
  cases h : tyB l with
  | true =>
    simp only [if_true]
    refine Ev.bind (f := fun k t120 => _) (spec_cen l hb) ?_
    exact Ev.pure
  | false => exact Ev.pure

theorem impl_C (l : List Int) (hb : l.length ≤ 1048576) : Ev (fun k => impl_CentraliserOf.f k l) (cenR l) := by
  unfold impl_CentraliserOf.f
  refine Ev.bind (f := fun k t119 => _) (isType_f l hb) ?_
  unfold cenR
  cases h : tyB l with
  | true =>
    simp only [if_true]
    refine Ev.bind (f := fun k t120 => _) (impl_cen l hb) ?_
    exact Ev.pure
  | false => exact Ev.pure

theorem FnExactCentraliserOf : laws_FnExactCentraliserOf.Pure := by
  intro l _ _ _
  suffices h : Ev (fun k => laws_FnExactCentraliserOf.f k l) true by
    obtain ⟨K, h⟩ := h
    exact ⟨K, h K (Nat.le_refl _)⟩
  unfold laws_FnExactCentraliserOf.f
  by_cases hb : l.length ≤ 1048576
  · simp only [if_neg (show ¬ ((l.length : Int) > 1048576) by omega)]
    refine Ev.bind (f := fun k t118 => _) (toI_f l hb) ?_
    refine Ev.bind (f := fun k t121 => _) (spec_C l hb) ?_
    refine Ev.bind (f := fun k t122 => _) (toI_f l hb) ?_
    refine Ev.bind (f := fun k t125 => _) (impl_C l hb) ?_
    simp only [bne_self_eq_false, if_true]
    refine Ev.s ?_
    simp only [laws_FnExactCentraliserOf.j0, Bool.false_eq_true, if_false]
    refine Ev.bind (f := fun k t126 => _) (toI_f l hb) ?_
    refine Ev.bind (f := fun k t129 => _) (eqI_f l hb) ?_
    simp only [if_true]
    exact Ev.pure
  · simp only [if_pos (show ((l.length : Int) > 1048576) by omega)]
    exact Ev.pure


end Go.Proofs.Ytjkojpmocgnkhaa.Pure
