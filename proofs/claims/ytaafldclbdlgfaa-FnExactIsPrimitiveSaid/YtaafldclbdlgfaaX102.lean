import Derived.Test.YtaafldclbdlgfaaX100
import Derived.Test.YtaafldclbdlgfaaD34
import Derived.Test.YtaafldclbdlgfaaD22
/- slices.CompactFunc at [][]int64 with slices.Equal: of neighbours that are the same the first stays. Walked over references to the rows inside. -/
namespace Go.Proofs.Ytaafldclbdlgfaa
open Go.RowKit DM
set_option linter.unusedSimpArgs false
set_option linter.unusedVariables false
set_option maxRecDepth 100000
set_option maxHeartbeats 1000000

/-- A reference to the s j-th row. -/
def refS (L : List (List Nat)) (s : Nat → Nat) (j : Nat) : Dat := .sl (s j + 1) 0 (L.getD (s j) []).length 1
def roN (l : List Nat) : Root := .ro l.length 1 (numsF l)
/-- The outer row, and behind it the rows. -/
def unM (L : List (List Nat)) (n : Nat) (f : Nat → Dat) : List Root := .row 34 n 1 f :: L.map roN

theorem unM_get (L : List (List Nat)) (n : Nat) (f : Nat → Dat) {j : Nat} (hj : j < L.length) : (unM L n f)[j + 1]? = some (roN (L.getD j [])) := by
  unfold unM
  rw [List.getElem?_cons_succ, List.getElem?_map, List.getElem?_eq_getElem hj]
  simp [List.getD_eq_getElem?_getD, List.getElem?_eq_getElem hj]

theorem refS_up (L : List (List Nat)) (s : Nat → Nat) (i k : Nat) : fup (refS L s) i (refS L (fun _ => k) i) = refS L (up s i k) := by
  funext j
  by_cases h : j = i
  · subst h; rw [fup_same]; unfold refS; rw [up_same]
  · rw [fup_ne _ _ h]; unfold refS; rw [up_ne _ _ h]

/-- Places of which no two neighbours hold the same, that stand for a list. -/
structure Picks (L : List (List Nat)) (k : Nat) (I : List Nat) : Prop where
  asc : I.Pairwise (· < ·)
  lt : ∀ x ∈ I, x < k
  map : I.map (fun j => L.getD j []) = cmpL (L.take k)

theorem cmp_snoc : ∀ (X : List (List Nat)) (a b : List Nat), cmpL (X ++ [a, b]) = if a = b then cmpL (X ++ [a]) else cmpL (X ++ [a]) ++ [b]
  | [], a, b => by
    simp only [List.nil_append, cmpL]
    by_cases h : a = b
    · rw [if_pos h, if_pos h, h]
    · rw [if_neg h, if_neg h]; rfl
  | [x], a, b => by
    simp only [List.cons_append, List.nil_append, cmpL]
    by_cases h : a = b
    · subst h; simp
    · by_cases h2 : x = a
      · subst h2; simp [h]
      · simp [h, h2]
  | x :: y :: X, a, b => by
    have ih := cmp_snoc (y :: X) a b
    simp only [List.cons_append] at ih ⊢
    simp only [cmpL]
    rw [ih]
    by_cases h : a = b
    · simp [h]
    · by_cases h2 : x = y
      · simp [h, h2]
      · simp [h, h2]

theorem take_two {L : List (List Nat)} {k : Nat} (hk : k + 1 < L.length) : L.take (k + 2) = L.take k ++ [L.getD k [], L.getD (k + 1) []] ∧ L.take (k + 1) = L.take k ++ [L.getD k []] := by
  have h1 : ∀ j, j < L.length → L.take (j + 1) = L.take j ++ [L.getD j []] := fun j hj => by
    rw [List.take_add_one, List.getElem?_eq_getElem hj, List.getD_eq_getElem?_getD, List.getElem?_eq_getElem hj]; rfl
  refine ⟨?_, h1 k (by omega)⟩
  rw [h1 (k + 1) hk, h1 k (by omega)]; simp

theorem Picks.same {L : List (List Nat)} {k : Nat} {I : List Nat} (h : Picks L (k + 1) I) (hk : k + 1 < L.length) (he : L.getD (k + 1) [] = L.getD k []) : Picks L (k + 2) I := by
  obtain ⟨e1, e2⟩ := take_two hk
  refine ⟨h.asc, fun x hx => Nat.lt_succ_of_lt (h.lt x hx), ?_⟩
  rw [h.map, e1, e2, cmp_snoc, if_pos he.symm]

theorem Picks.more {L : List (List Nat)} {k : Nat} {I : List Nat} (h : Picks L (k + 1) I) (hk : k + 1 < L.length) (he : L.getD (k + 1) [] ≠ L.getD k []) : Picks L (k + 2) (I ++ [k + 1]) := by
  obtain ⟨e1, e2⟩ := take_two hk
  refine ⟨List.pairwise_append.2 ⟨h.asc, List.pairwise_singleton _ _, fun x hx y hy => ?_⟩, fun x hx => ?_, ?_⟩
  · rw [List.mem_singleton] at hy; subst hy; exact h.lt x hx
  · rw [List.mem_append, List.mem_singleton] at hx
    rcases hx with hx | rfl
    · exact Nat.lt_succ_of_lt (h.lt x hx)
    · omega
  · rw [List.map_append, h.map, e1, e2, cmp_snoc, if_neg (Ne.symm he)]; rfl

theorem Picks.one (L : List (List Nat)) (h : 0 < L.length) : Picks L 1 [0] := by
  refine ⟨List.pairwise_singleton _ _, fun x hx => by simp at hx; omega, ?_⟩
  cases L with
  | nil => simp at h
  | cons a L => rfl

theorem asc_len : ∀ {I : List Nat} {a k : Nat}, I.Pairwise (· < ·) → (∀ x ∈ I, a ≤ x ∧ x < k) → I.length ≤ k - a
  | [], _, _, _, _ => Nat.zero_le _
  | x :: I, a, k, h, hx => by
    obtain ⟨h1, h2⟩ := List.pairwise_cons.1 h
    have h3 := hx x (.head _)
    have := asc_len (a := x + 1) h2 fun y hy => ⟨h1 y hy, (hx y (.tail _ hy)).2⟩
    simp only [List.length_cons]; omega
theorem Picks.len {L : List (List Nat)} {k : Nat} {I : List Nat} (h : Picks L k I) : I.length ≤ k := by
  have := asc_len (a := 0) h.asc fun x hx => ⟨Nat.zero_le _, h.lt x hx⟩
  omega

/-- What stands where: the places that were picked, then all as it was. -/
def atI (I : List Nat) (j : Nat) : Nat := if j < I.length then I.getD j 0 else j
theorem atI_snoc (I : List Nat) (k : Nat) : up (atI I) I.length k = atI (I ++ [k]) := by
  funext j
  unfold up atI
  rw [List.length_append, List.length_singleton]
  by_cases h : j = I.length
  · subst h; rw [if_pos rfl, if_pos (by omega)]; simp [List.getD_eq_getElem?_getD]
  · rw [if_neg h]
    by_cases h2 : j < I.length
    · rw [if_pos h2, if_pos (by omega)]; simp [List.getD_eq_getElem?_getD, List.getElem?_append_left h2]
    · rw [if_neg h2, if_neg (by omega)]

theorem atI_range (k j : Nat) : atI (List.range k) j = j := by
  unfold atI
  split
  · rename_i h; simp at h; simp [List.getD_eq_getElem?_getD, List.getElem?_range h]
  · rfl

theorem addrAt_add (a z : Nat) : addrAt a z = a + z := by cases a <;> simp [addrAt]

theorem picks_small (L : List (List Nat)) (h : L.length < 2) : Picks L L.length (List.range L.length) := by
  match L, h with
  | [], _ => exact ⟨.nil, fun x hx => by simp at hx, rfl⟩
  | [a], _ => exact Picks.one [a] (by simp)
  | _ :: _ :: _, h => simp at h; omega

theorem picks_range {L : List (List Nat)} {k : Nat} (h : Picks L (k + 1) (List.range (k + 1))) (hk : k + 1 < L.length) (he : L.getD (k + 1) [] ≠ L.getD k []) : Picks L (k + 2) (List.range (k + 2)) := by
  have := h.more hk he
  rwa [← List.range_succ] at this

theorem unM_al {L : List (List Nat)} {n : Nat} {f : Nat → Dat} {i j : Nat} (hi : i < L.length) (hj : j < L.length) : LeAll 0 (unM L n f) [i + 1, j + 1] [.ro (L.getD i []).length 1 (numsF (L.getD i [])), .ro (L.getD j []).length 1 (numsF (L.getD j []))] :=
  LeAll.cons (unM_get L n f hi) (Root.Le.refl _) (fun d hd => by cases hd; exact fun _ _ => trivial) (LeAll.cons (unM_get L n f hj) (Root.Le.refl _) (fun d hd => by cases hd; exact fun _ _ => trivial) trivial)

theorem compact_un (L : List (List Nat)) (hL : ∀ l ∈ L, l.length ≤ 65536) (hn : L.length ≤ 65536) :
    FnS Try.prog 53 [.sl 0 0 L.length 1, .fn 49 0 (fun _ => .un)] (unM L L.length (refS L fun j => j)) fun r m' => ∃ I f', Picks L L.length I ∧ r = .sl 0 0 I.length 1 ∧ m' = unM L L.length f' ∧ ∀ j, j < I.length → f' j = refS L (fun j => I.getD j 0) j := by
  have hlen : ∀ j, (L.getD j []).length ≤ 65536 := fun j => by
    rw [List.getD_eq_getElem?_getD]
    by_cases h : j < L.length
    · rw [List.getElem?_eq_getElem h]; exact hL _ (List.getElem_mem h)
    · rw [List.getElem?_eq_none (by omega)]; exact Nat.zero_le _
  have hall : ∀ j, j < (List.range L.length).length → refS L (fun j => j) j = refS L (fun j => (List.range L.length).getD j 0) j := fun j hj => by
    simp at hj
    unfold refS
    simp [List.getD_eq_getElem?_getD, List.getElem?_range hj]
  refine FnS.into T tok Try.func53 (by rfl) rfl rfl rfl (by simp) ?_
  unfold unM
  refine WP.rsG T false tok (by rfl) (by exact byObl) ?_
  refine WP.seq ?_
  refine WP.rsG T false tok (by rfl) (by exact byObl) ?_
  refine WP.cond (by rfl) (fun h => ?_) (fun h => WP.skip ?_)
  · have h : L.length < 2 := by have := of_decide_eq_true h; omega
    refine WP.rsG T false tok (by rfl) (by exact byObl) ?_
    refine WP.ret ⟨.inl rfl, _, _, by rfl, by exact byObl, List.range L.length, refS L (fun j => j), picks_small L h, ?_, rfl, hall⟩
    rw [List.length_range]; rfl
  have h2 : 2 ≤ L.length := by have := of_decide_eq_false h; omega
  clear h
  refine WP.seq ?_
  refine WP.rsG T false tok (by rfl) (by exact byObl) ?_
  refine WP.block ?_
  refine WP.loopS [4, 5, 6, 7, 12, 13, 14, 15, 16, 17, 18, 19, 20, 21, 22, 23, 24, 25, 26, 27, 28, 29, 30, 31, 32, 33, 34, 35, 36, 37, 38, 39, 40, 41, 42, 43, 44, 45, 46, 47, 48, 49, 50, 51, 52, 53, 54, 55, 56, 57, 58, 59, 60, 61, 62, 63, 64] (fun k : Nat => k + 1 ≤ L.length ∧ Picks L (k + 1) (List.range (k + 1))) (fun k => [(5, .i .i64 ((k + 1 : Nat) : Int))]) (fun k => unM L L.length (refS L fun j => j)) (fun k => L.length - k) 0 ⟨by omega, Picks.one L (by omega)⟩ (by rfl) (by rfl) ?_
  intro k hk g
  obtain ⟨hk1, hk2⟩ := hk
  unfold unM
  refine WP.seq ?_
  refine WP.rsG T false tok (by rfl) (by exact byObl) ?_
  refine WP.cond (by rfl) (fun hc => WP.skip ?_) (fun hc => WP.exit ?_)
  · have hk : k + 1 < L.length := by have := of_decide_eq_true hc; omega
    clear hc
    refine WP.seq (WP.block ?_)
    refine WP.seq ?_
    refine WP.drawsQ (by kernel_rfl) (by kernel_rfl) ?_
    refine WQ.runG T false 10 tok (by rfl) (by rfl) (by exact byObl) ?_
    refine WQ.callRF [k + 2, k + 1] (slicesEqual_fn (L.getD (k + 1) []) (L.getD k []) (hlen _) (hlen _)) (by rfl) rfl (unM_al hk (by omega)) (ArgsR.cons ?_ rfl (ArgsR.cons ?_ rfl trivial)) (by rfl) (by rfl) (by simp [Sc]) ⟨trivial, trivial, trivial⟩ ?_
    · rfl
    · have e : addrAt 0 (((k + 1 : Nat) : Int) - 1).toNat = k := by rw [addrAt0]; omega
      show refS L (fun j => j) (addrAt 0 (((k + 1 : Nat) : Int) - 1).toNat) = _
      rw [e]; rfl
    refine WQ.finG T false tok (by rfl) (by rfl) (by exact byObl) ?_
    refine WP.cond (by rfl) (fun h => ?_) (fun h => ?_)
    · have h : L.getD (k + 1) [] = L.getD k [] := of_decide_eq_true h
      refine WP.rw ?_
      refine WPL.runG T false 2 tok (by rfl) (by exact byObl) ?_
      refine WPL.op (by rfl) (by rfl) (QOK.op (sll_ok tok rfl rfl rfl rfl rfl rfl rfl (l := k + 1) (by omega) (by omega))) ?_
      refine WPL.finG T false tok (by rfl) (by exact byObl) ?_
      refine WP.seq ?_
      refine WP.rsG T false tok (by rfl) (by exact byObl) ?_
      refine WP.block ?_
      refine WP.loopS [5, 7, 32, 33, 34, 35, 36, 37, 38, 39, 40, 41, 42, 43, 44, 45, 46, 47, 48, 49, 50, 51, 52, 53, 54, 55, 56, 57, 58] (fun x : Nat × List Nat => k + 2 + x.1 ≤ L.length ∧ Picks L (k + 2 + x.1) x.2 ∧ x.2.length ≤ k + 1 + x.1) (fun x => [(5, .i .i64 (x.2.length : Int)), (7, .i .i64 ((x.1 + 1 : Nat) : Int))]) (fun x => unM L L.length (refS L (atI x.2))) (fun x => L.length - x.1) (0, List.range (k + 1)) ⟨by omega, hk2.same hk h, by simp⟩ ?_ ?_ ?_
      · exact ⟨by show Dat.i .i64 ((k + 1 : Nat) : Int) = _; rw [List.length_range], rfl⟩
      · rw [show atI (List.range (k + 1)) = fun j => j from funext (atI_range _)]; rfl
      rintro ⟨j, I⟩ ⟨hj1, hj2, hj3⟩ g2
      dsimp only at hj1 hj2 hj3 ⊢
      unfold unM
      refine WP.seq ?_
      refine WP.rsG T false tok (by rfl) (by exact byObl) ?_
      refine WP.cond (by rfl) (fun hc => WP.skip ?_) (fun hc => WP.exit ?_)
      · have hj : k + 2 + j < L.length := by have := of_decide_eq_true hc; omega
        clear hc
        refine WP.seq (WP.block ?_)
        refine WP.seq ?_
        refine WP.drawsQ (by kernel_rfl) (by kernel_rfl) ?_
        refine WQ.runG T false 10 tok (by rfl) (by rfl) (by simp only [addrAt_add, refS, plE, Root.holds, InR, List.nil_append, List.append_nil, List.cons_append, AllP] <;> and_intros <;> first | omega | exact rfl | trivial) ?_
        have ea : addrAt (0 + (k + 1)) (((j + 1 : Nat) : Int)).toNat = k + 2 + j := by rw [addrAt_add]; omega
        have eb : addrAt (0 + (k + 1)) (((j + 1 : Nat) : Int) - 1).toNat = k + 1 + j := by rw [addrAt_add]; omega
        have na : ∀ y, I.length ≤ y → atI I y = y := fun y hy => by unfold atI; rw [if_neg (by omega)]
        refine WQ.callRF [k + 2 + j + 1, k + 1 + j + 1] (slicesEqual_fn (L.getD (k + 2 + j) []) (L.getD (k + 1 + j) []) (hlen _) (hlen _)) (by rfl) rfl (unM_al (by omega) (by omega)) (ArgsR.cons ?_ rfl (ArgsR.cons ?_ rfl trivial)) (by rfl) (by rfl) (by simp [Sc]) ⟨trivial, trivial, trivial⟩ ?_
        · show refS L (atI I) (addrAt (0 + (k + 1)) (((j + 1 : Nat) : Int)).toNat) = _
          rw [ea]; unfold refS; rw [na _ (by omega)]; rfl
        · show refS L (atI I) (addrAt (0 + (k + 1)) (((j + 1 : Nat) : Int) - 1).toNat) = _
          rw [eb]; unfold refS; rw [na _ (by omega)]; rfl
        refine WQ.finG T false tok (by rfl) (by rfl) (by exact byObl) ?_
        have hg : L.getD (k + 2 + j) [] = L.getD (k + 1 + j + 1) [] := by rw [show k + 2 + j = k + 1 + j + 1 by omega]
        rw [show k + 2 + j = k + 1 + j + 1 by omega] at hj2 hj
        refine WP.cond (by rfl) (fun h3 => ?_) (fun h3 => ?_)
        · have h3 : L.getD (k + 1 + j + 1) [] ≠ L.getD (k + 1 + j) [] := by
            rw [← hg]; simpa using h3
          have hm := hj2.more hj h3
          refine WP.rsG T false tok (by rfl) (by simp only [addrAt_add, refS, plE, Root.holds, InR, List.nil_append, List.append_nil, List.cons_append, AllP] <;> and_intros <;> first | omega | exact rfl | trivial) ?_
          refine WP.runG T false tok (by rfl) (by exact byObl) ?_
          refine WP.runG T false tok (by rfl) (by exact byObl) ?_
          have e1 : refS L (atI I) (addrAt (0 + (k + 1)) (((j + 1 : Nat) : Int)).toNat) = refS L (fun _ => k + 1 + j + 1) I.length := by
            rw [ea]; unfold refS; rw [na _ (by omega)]; rw [show k + 2 + j = k + 1 + j + 1 by omega]
          have e2 : addrAt 0 ((I.length : Int)).toNat = I.length := by rw [addrAt0]; omega
          have e3 : fup (refS L (atI I)) (addrAt 0 ((I.length : Int)).toNat) (refS L (atI I) (addrAt (0 + (k + 1)) (((j + 1 : Nat) : Int)).toNat)) = refS L (atI (I ++ [k + 1 + j + 1])) := by
            rw [e1, e2, ← atI_snoc]
            exact refS_up L (atI I) I.length (k + 1 + j + 1)
          refine ⟨(j + 1, I ++ [k + 1 + j + 1]), ⟨by dsimp only; omega, by dsimp only; rw [show k + 2 + (j + 1) = k + 1 + j + 2 by omega]; exact hm, by dsimp only; rw [List.length_append, List.length_singleton]; omega⟩, by dsimp only; omega, by (dsimp only; (repeat (first | (with_reducible exact Agree.refl) | ((with_reducible refine Agree.hd ?_); exact rfl) | ((with_reducible refine Agree.fup ?_ ?_); exact rfl) | ((with_reducible refine Agree.inner ?_ ?_ ?_); exact rfl; exact rfl)))), ⟨?_, rfl⟩, ?_⟩
          · show Dat.i .i64 ((I.length : Int) + 1) = _
            rw [List.length_append, List.length_singleton]; rfl
          · show (Root.row _ L.length 1 (fup (refS L (atI I)) (addrAt 0 ((I.length : Int)).toNat) (refS L (atI I) (addrAt (0 + (k + 1)) (((j + 1 : Nat) : Int)).toNat))) :: L.map roN) = _
            rw [e3]
        · have h3 : L.getD (k + 1 + j + 1) [] = L.getD (k + 1 + j) [] := by
            rw [← hg]; simpa using h3
          have hm := hj2.same hj h3
          refine WP.skip ?_
          refine WP.runG T false tok (by rfl) (by exact byObl) ?_
          exact ⟨(j + 1, I), ⟨by dsimp only; omega, by dsimp only; rw [show k + 2 + (j + 1) = k + 1 + j + 2 by omega]; exact hm, by dsimp only; omega⟩, by dsimp only; omega, by (dsimp only; (repeat (first | (with_reducible exact Agree.refl) | ((with_reducible refine Agree.hd ?_); exact rfl) | ((with_reducible refine Agree.fup ?_ ?_); exact rfl) | ((with_reducible refine Agree.inner ?_ ?_ ?_); exact rfl; exact rfl)))), ⟨rfl, rfl⟩, rfl⟩
      · have hj : k + 2 + j = L.length := by have := of_decide_eq_false hc; omega
        clear hc
        rw [hj] at hj2
        refine WP.rw ?_
        refine WPL.runG T false 2 tok (by rfl) (by exact byObl) ?_
        refine WPL.op (by rfl) (by rfl) (QOK.op (sll_ok tok rfl rfl rfl rfl rfl rfl rfl (l := I.length) (by omega) (by omega))) ?_
        refine WPL.op (by rfl) (by rfl) (ok_clear tok rfl rfl rfl rfl rfl rfl (fun _ _ => rfl) (by omega) (by omega)) ?_
        refine WPL.nil ?_
        refine WP.rw ?_
        refine WPL.runG T false 2 tok (by rfl) (by exact byObl) ?_
        refine WPL.op (by rfl) (by rfl) (QOK.op (slh_ok (h := I.length) tok rfl rfl rfl rfl rfl rfl rfl (by omega))) ?_
        refine WPL.finG T false tok (by rfl) (by exact byObl) ?_
        refine WP.ret ⟨.inl rfl, _, _, by rfl, by exact byObl, I, _, hj2, rfl, rfl, fun y hy => ?_⟩
        unfold clF
        rw [if_neg (by omega)]
        unfold refS atI
        rw [if_pos hy]
    · have h : L.getD (k + 1) [] ≠ L.getD k [] := of_decide_eq_false h
      refine WP.skip ?_
      refine WP.runG T false tok (by rfl) (by exact byObl) ?_
      refine ⟨k + 1, by exact ⟨hk, picks_range hk2 hk h⟩, by omega, by (dsimp only; (repeat (first | (with_reducible exact Agree.refl) | ((with_reducible refine Agree.hd ?_); exact rfl) | ((with_reducible refine Agree.fup ?_ ?_); exact rfl) | ((with_reducible refine Agree.inner ?_ ?_ ?_); exact rfl; exact rfl)))), by first | rfl | simp [Slots], by first | rfl | (simp only [upd, pl, dsf, cast1, Int.toNat_natCast, fup_u8, fup_b, fup_i64, dsf_up0, dsf_up1, dsf_up2]; done) | (simp only [upd, pl, dsf, cast1, Int.toNat_natCast, fup_u8, fup_b, fup_i64, dsf_up0, dsf_up1, dsf_up2]; first | (rfl; done) | (rfl; rfl))⟩
  · have hk : ¬ k + 1 < L.length := by have := of_decide_eq_false hc; omega
    have e : k + 1 = L.length := by omega
    clear hc
    refine WP.rsG T false tok (by rfl) (by exact byObl) ?_
    refine WP.ret ⟨.inl rfl, _, _, by rfl, by exact byObl, List.range L.length, refS L (fun j => j), by rw [← e]; exact hk2, ?_, rfl, hall⟩
    rw [List.length_range]; rfl

end Go.Proofs.Ytaafldclbdlgfaa
