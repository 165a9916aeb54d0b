import Derived.Test.YthjnmlpibafbnaaL37
import Derived.Test.YthjnmlpibafbnaaL38
import Derived.Test.YthjnmlpibafbnaaD34
namespace Go.Proofs.Ythjnmlpibafbnaa
open Go.RowKit DM
set_option linter.unusedSimpArgs false
set_option linter.unusedVariables false
set_option maxRecDepth 100000
set_option maxHeartbeats 1000000
def gridD (g : Nat → Nat → Int) : Dat := .ar 16 16 (fun a => .ar 16 1 (fun b => .i .i64 (g a b)))
def uq2 (g : Nat → Nat → Int) (i j : Nat) (v : Int) (a b : Nat) : Int := if a = i then (if b = j then v else g a b) else g a b
theorem grid_up (g : Nat → Nat → Int) (i j : Nat) (v : Int) : Dat.ar 16 16 (fup (fun a => .ar 16 1 (fun b => .i .i64 (g a b))) i (.ar 16 1 (fup (fun b => .i .i64 (g i b)) j (.i .i64 v)))) = gridD (uq2 g i j v) := by
  unfold gridD
  congr 1
  funext a
  by_cases h : a = i
  · subst h
    rw [fup_same]
    congr 1
    funext b
    unfold uq2
    rw [if_pos rfl]
    by_cases h2 : b = j
    · subst h2; rw [fup_same, if_pos rfl]
    · rw [fup_ne _ _ h2, if_neg h2]
  · rw [fup_ne _ _ h]
    congr 1
    funext b
    unfold uq2
    rw [if_neg h]
theorem sc_grid (k : Nat) (g : Nat → Nat → Int) : Sc k (gridD g) := fun _ _ _ _ => trivial
theorem pl_grid (g : Nat → Nat → Int) : Pl (gridD g) := fun _ _ _ _ => trivial
def negI (i j a b : Nat) : Int := if b < 16 ∧ (a < i ∨ (a = i ∧ b < j)) then -1 else 0
theorem negI_step (i : Nat) {j : Nat} (hj : j < 16) : uq2 (negI i j) i j (-1) = negI i (j + 1) := by
  funext a b
  unfold uq2 negI
  by_cases h : a = i
  · subst h
    rw [if_pos rfl]
    by_cases h2 : b = j
    · subst h2; rw [if_pos rfl, if_pos ⟨hj, .inr ⟨rfl, by omega⟩⟩]
    · rw [if_neg h2]
      by_cases h3 : b < 16 ∧ b < j
      · rw [if_pos ⟨h3.1, .inr ⟨rfl, h3.2⟩⟩, if_pos ⟨h3.1, .inr ⟨rfl, by omega⟩⟩]
      · rw [if_neg (by omega), if_neg (by omega)]
  · rw [if_neg h]
    by_cases h2 : b < 16 ∧ a < i
    · rw [if_pos ⟨h2.1, .inl h2.2⟩, if_pos ⟨h2.1, .inl h2.2⟩]
    · rw [if_neg (by omega), if_neg (by omega)]
theorem negI_row (i : Nat) : negI i 16 = negI (i + 1) 0 := by
  funext a b
  unfold negI
  by_cases h : b < 16 ∧ a < i + 1
  · rw [if_pos (by omega), if_pos (by omega)]
  · rw [if_neg (by omega), if_neg (by omega)]
theorem negI_zero : negI 0 0 = fun _ _ => 0 := by
  funext a b
  unfold negI
  rw [if_neg (by omega)]
def nmV (Q : List (Nat × Nat)) (a b : Nat) : Int := if (a, b) ∈ Q then ((ixP Q (a, b) : Nat) : Int) else negI 16 0 a b
theorem nmV_one (z : Nat × Nat) : uq2 (negI 16 0) z.1 z.2 0 = nmV [z] := by
  funext a b
  unfold uq2 nmV
  by_cases h : (a, b) = z
  · subst h; simp [ixP]
  · rw [if_neg (show (a, b) ∉ [z] from fun hm => h (List.mem_singleton.1 hm))]
    by_cases h1 : a = z.1
    · rw [if_pos h1]
      by_cases h2 : b = z.2
      · exact absurd (Prod.ext h1 h2) h
      · rw [if_neg h2]
    · rw [if_neg h1]
theorem nmV_new {Q : List (Nat × Nat)} {y : Nat × Nat} (hy : y ∉ Q) : uq2 (nmV Q) y.1 y.2 (Q.length : Int) = nmV (Q ++ [y]) := by
  funext a b
  unfold uq2
  by_cases h : (a, b) = y
  · subst h
    simp only [if_true]
    unfold nmV ixP
    rw [if_pos (by simp), List.idxOf_append, if_neg hy]
    simp
  · have e : nmV (Q ++ [y]) a b = nmV Q a b := by
      unfold nmV ixP
      by_cases hm : (a, b) ∈ Q
      · rw [if_pos (by simp [hm]), if_pos hm, List.idxOf_append, if_pos hm]
      · rw [if_neg (by simp [hm, h]), if_neg hm]
    rw [e]
    by_cases h1 : a = y.1
    · rw [if_pos h1]
      by_cases h2 : b = y.2
      · exact absurd (Prod.ext h1 h2) h
      · rw [if_neg h2]
    · rw [if_neg h1]
theorem nmV_neg {Q : List (Nat × Nat)} {y : Nat × Nat} (h1 : y.1 < 16) (h2 : y.2 < 16) : nmV Q y.1 y.2 < 0 ↔ y ∉ Q := by
  unfold nmV
  by_cases h : y ∈ Q
  · rw [if_pos h]; exact ⟨fun h2 => by omega, fun h2 => absurd h h2⟩
  · rw [if_neg h]
    unfold negI
    rw [if_pos (by omega)]
    exact ⟨fun _ => h, fun _ => by omega⟩
theorem nmV_ix {Q : List (Nat × Nat)} {y : Nat × Nat} (h : y ∈ Q) : nmV Q y.1 y.2 = ((ixP Q y : Nat) : Int) := by
  unfold nmV; rw [if_pos h]
theorem l02Pairs_fn (N M : Nat) (b w b' w' : Nat → Nat) (z : Nat × Nat) (hN : N ≤ 16) (hM : M ≤ 16) (hz : z.1 < N ∧ z.2 < M) (hb : ∀ i, i < N → b i < N) (hw : ∀ i, i < N → w i < N) (hb' : ∀ i, i < M → b' i < M) (hw' : ∀ i, i < M → w' i < M) :
    FnS Try.prog 43 [ds_ N b w, ds_ M b' w', .i .u8 (z.1 : Int), .i .u8 (z.2 : Int)] [] (fun r m' => r = t2 (.sl 0 0 (prQ (stP b b') (stP w w') z).length 2) (gridD (nmV (prQ (stP b b') (stP w w') z))) ∧ m' = [.row 66 (prQ (stP b b') (stP w w') z).length 2 (prUF (prQ (stP b b') (stP w w') z))]) := by
  have kf : KeepsP N M (stP b b') := fun y hy => ⟨hb _ hy.1, hb' _ hy.2⟩
  have kg : KeepsP N M (stP w w') := fun y hy => ⟨hw _ hy.1, hw' _ hy.2⟩
  refine FnS.intoN T tok Try.func43 (by rfl) rfl rfl rfl (by simp) ?_
  refine rS ?_
  refine rS ?_
  refine WP.seq ?_
  refine rS ?_
  refine WP.block ?_
  refine WP.loopH (⟨fun i : Nat => i ≤ 16, fun i => [(2, .i .u8 (z.1 : Int)), (3, .i .u8 (z.2 : Int)), (4, .p 0 [] 0), (5, .p 1 [] 0), (8, .ns), (9, .p 2 [] 0), (10, .p 4 [] 0), (11, .sl 3 0 1 2), (12, .i .i64 (i : Int))], fun i => [.var (ds_ N b w), .var (ds_ M b' w'), .var (gridD fun _ _ => 0), .row 66 1 2 (prUF [z]), .var (gridD (negI i 0))], fun i => 16 - i⟩) (0) (by omega) (gC [0, 1, 2, 3, 4] (LeAll.cons (by rfl) (by first | with_reducible exact Root.Le.refl _ | with_reducible exact le_dead | (first | exact le_var (by rw [negI_zero]; rfl) | exact le_row (Nat.le_refl _) (fun j hj => by obtain rfl : j = 0 := (by have : j < 1 := hj; omega); rfl)) | exact byLeq) (by exact byCon) (LeAll.cons (by rfl) (by first | with_reducible exact Root.Le.refl _ | with_reducible exact le_dead | (first | exact le_var (by rw [negI_zero]; rfl) | exact le_row (Nat.le_refl _) (fun j hj => by obtain rfl : j = 0 := (by have : j < 1 := hj; omega); rfl)) | exact byLeq) (by exact byCon) (LeAll.cons (by rfl) (by first | with_reducible exact Root.Le.refl _ | with_reducible exact le_dead | (first | exact le_var (by rw [negI_zero]; rfl) | exact le_row (Nat.le_refl _) (fun j hj => by obtain rfl : j = 0 := (by have : j < 1 := hj; omega); rfl)) | exact byLeq) (by exact byCon) (LeAll.cons (by rfl) (by first | with_reducible exact Root.Le.refl _ | with_reducible exact le_dead | (first | exact le_var (by rw [negI_zero]; rfl) | exact le_row (Nat.le_refl _) (fun j hj => by obtain rfl : j = 0 := (by have : j < 1 := hj; omega); rfl)) | exact byLeq) (by exact byCon) (LeAll.cons (by rfl) (by first | with_reducible exact Root.Le.refl _ | with_reducible exact le_dead | (first | exact le_var (by rw [negI_zero]; rfl) | exact le_row (Nat.le_refl _) (fun j hj => by obtain rfl : j = 0 := (by have : j < 1 := hj; omega); rfl)) | exact byLeq) (by exact byCon) (leZ))))))) ?_
  intro i hi
  dsimp only at hi
  dsimp only [Hd.at]
  refine WP.seq ?_
  refine rS ?_
  refine WP.cond (by rfl) (fun hc => WP.skip ?_) (fun hc => WP.exit ?_)
  · have hi : i < 16 := by have := of_decide_eq_true hc; omega
    clear hc
    refine WP.seq (WP.block ?_)
    refine rS ?_
    refine WP.block ?_
    refine WP.loopH (⟨fun j : Nat => j ≤ 16, fun j => [(2, .i .u8 (z.1 : Int)), (3, .i .u8 (z.2 : Int)), (4, .p 0 [] 0), (5, .p 1 [] 0), (8, .ns), (9, .p 2 [] 0), (10, .p 4 [] 0), (11, .sl 3 0 1 2), (12, .i .i64 (i : Int)), (13, .i .i64 (j : Int))], fun j => [.var (ds_ N b w), .var (ds_ M b' w'), .var (gridD fun _ _ => 0), .row 66 1 2 (prUF [z]), .var (gridD (negI i j))], fun j => 16 - j⟩) (0) (by omega) (gC [0, 1, 2, 3, 4] (leC (leC (leC (leC (leC leZ)))))) ?_
    intro j hj
    dsimp only at hj
    dsimp only [Hd.at]
    refine WP.seq ?_
    refine rS ?_
    refine WP.cond (by rfl) (fun hc => WP.skip ?_) (fun hc => WP.exit ?_)
    · have hj : j < 16 := by have := of_decide_eq_true hc; omega
      clear hc
      refine WP.seq (WP.block ?_)
      refine rE ?_
      refine rE ?_
      refine Again.next (j + 1) (gC [0, 1, 2, 3, 4] (LeAll.cons (by rfl) (by first | with_reducible exact Root.Le.refl _ | with_reducible exact le_dead | (exact le_var ((by rw [← negI_step i hj]; exact (grid_up (negI i j) i j (-1)).symm))) | exact byLeq) (by exact byCon) (LeAll.cons (by rfl) (by first | with_reducible exact Root.Le.refl _ | with_reducible exact le_dead | (exact le_var ((by rw [← negI_step i hj]; exact (grid_up (negI i j) i j (-1)).symm))) | exact byLeq) (by exact byCon) (LeAll.cons (by rfl) (by first | with_reducible exact Root.Le.refl _ | with_reducible exact le_dead | (exact le_var ((by rw [← negI_step i hj]; exact (grid_up (negI i j) i j (-1)).symm))) | exact byLeq) (by exact byCon) (LeAll.cons (by rfl) (by first | with_reducible exact Root.Le.refl _ | with_reducible exact le_dead | (exact le_var ((by rw [← negI_step i hj]; exact (grid_up (negI i j) i j (-1)).symm))) | exact byLeq) (by exact byCon) (LeAll.cons (by rfl) (by first | with_reducible exact Root.Le.refl _ | with_reducible exact le_dead | (exact le_var ((by rw [← negI_step i hj]; exact (grid_up (negI i j) i j (-1)).symm))) | exact byLeq) (by exact byCon) (leZ))))))) (hj) (by dsimp only; omega)
    · have hj : j = 16 := by have := of_decide_eq_false hc; omega
      subst hj
      clear hc
      refine rE ?_
      refine Again.next (i + 1) (gC [0, 1, 2, 3, 4] (LeAll.cons (by rfl) (by first | with_reducible exact Root.Le.refl _ | with_reducible exact le_dead | (exact le_var (by rw [negI_row]; rfl)) | exact byLeq) (by exact byCon) (LeAll.cons (by rfl) (by first | with_reducible exact Root.Le.refl _ | with_reducible exact le_dead | (exact le_var (by rw [negI_row]; rfl)) | exact byLeq) (by exact byCon) (LeAll.cons (by rfl) (by first | with_reducible exact Root.Le.refl _ | with_reducible exact le_dead | (exact le_var (by rw [negI_row]; rfl)) | exact byLeq) (by exact byCon) (LeAll.cons (by rfl) (by first | with_reducible exact Root.Le.refl _ | with_reducible exact le_dead | (exact le_var (by rw [negI_row]; rfl)) | exact byLeq) (by exact byCon) (LeAll.cons (by rfl) (by first | with_reducible exact Root.Le.refl _ | with_reducible exact le_dead | (exact le_var (by rw [negI_row]; rfl)) | exact byLeq) (by exact byCon) (leZ))))))) (hi) (by dsimp only; omega)
  · have hi : i = 16 := by have := of_decide_eq_false hc; omega
    subst hi
    clear hc
    refine rS ?_
    refine WP.seq ?_
    refine rS ?_
    refine WP.block ?_
    refine WP.loopH (⟨fun s : Nat × List (Nat × Nat) => PInv N M s.2 ∧ s.1 ≤ s.2.length ∧ pres (stP b b') (stP w w') s.1 s.2 = prQ (stP b b') (stP w w') z, fun s => [(4, .p 0 [] 0), (5, .p 1 [] 0), (8, .ns), (9, .p 2 [] 0), (10, .p 4 [] 0), (11, .sl 3 0 s.2.length 2), (14, .i .i64 (s.1 : Int))], fun s => [.var (ds_ N b w), .var (ds_ M b' w'), .var (gridD fun _ _ => 0), .row 66 s.2.length 2 (prUF s.2), .var (gridD (nmV s.2))], fun s => pmu s.1 s.2⟩) ((0, [z])) (⟨pinv_one hz, Nat.zero_le _, rfl⟩) (gC [0, 1, 2, 3, 4] (LeAll.cons (by rfl) (by first | with_reducible exact Root.Le.refl _ | with_reducible exact le_dead | (exact le_var (by rw [← nmV_one]; exact (grid_up (negI 16 0) z.1 z.2 0).symm)) | exact byLeq) (by exact byCon) (LeAll.cons (by rfl) (by first | with_reducible exact Root.Le.refl _ | with_reducible exact le_dead | (exact le_var (by rw [← nmV_one]; exact (grid_up (negI 16 0) z.1 z.2 0).symm)) | exact byLeq) (by exact byCon) (LeAll.cons (by rfl) (by first | with_reducible exact Root.Le.refl _ | with_reducible exact le_dead | (exact le_var (by rw [← nmV_one]; exact (grid_up (negI 16 0) z.1 z.2 0).symm)) | exact byLeq) (by exact byCon) (LeAll.cons (by rfl) (by first | with_reducible exact Root.Le.refl _ | with_reducible exact le_dead | (exact le_var (by rw [← nmV_one]; exact (grid_up (negI 16 0) z.1 z.2 0).symm)) | exact byLeq) (by exact byCon) (LeAll.cons (by rfl) (by first | with_reducible exact Root.Le.refl _ | with_reducible exact le_dead | (exact le_var (by rw [← nmV_one]; exact (grid_up (negI 16 0) z.1 z.2 0).symm)) | exact byLeq) (by exact byCon) (leZ))))))) ?_
    rintro ⟨i, Q⟩ ⟨hI, hiQ, hR⟩
    simp only at hI hiQ hR
    dsimp only [Hd.at]
    have hQl := hI.le hN hM
    refine WP.seq ?_
    refine rS ?_
    refine WP.cond (by rfl) (fun hc => WP.skip ?_) (fun hc => WP.exit ?_)
    · have hi : i < Q.length := by have := of_decide_eq_true hc; omega
      clear hc
      obtain ⟨h1, h2, h3⟩ := pmu_round hN hM kf kg hI hi
      have h4 := pres_step hN hM kf kg hI hi
      have hQ1 := h1.le hN hM
      obtain ⟨hx1, hx2⟩ := hI.get hi
      have ha16 : (stP b b' (Q.getD i (0, 0))).1 < 16 ∧ (stP b b' (Q.getD i (0, 0))).2 < 16 := ⟨Nat.lt_of_lt_of_le (hb _ hx1) hN, Nat.lt_of_lt_of_le (hb' _ hx2) hM⟩
      have hc16 : (stP w w' (Q.getD i (0, 0))).1 < 16 ∧ (stP w w' (Q.getD i (0, 0))).2 < 16 := ⟨Nat.lt_of_lt_of_le (hw _ hx1) hN, Nat.lt_of_lt_of_le (hw' _ hx2) hM⟩
      have hx16 : (Q.getD i (0, 0)).1 < 16 ∧ (Q.getD i (0, 0)).2 < 16 := ⟨by omega, by omega⟩
      refine WP.seq (WP.block ?_)
      refine rS ?_
      refine rS ?_
      refine WP.block ?_
      refine WP.loopH (⟨fun j : Nat => j ≤ 2, fun j => [(4, .p 0 [] 0), (5, .p 1 [] 0), (8, .ns), (9, .p 2 [] 0), (10, .p 4 [] 0), (11, .sl 3 0 (mid2 Q (stP b b' (Q.getD i (0, 0))) (stP w w' (Q.getD i (0, 0))) j).length 2), (14, .i .i64 (i : Int)), (15, .p 5 [] 0), (16, .i .i64 (j : Int))], fun j => [.var (ds_ N b w), .var (ds_ M b' w'), .var (gridD fun _ _ => 0), .row 66 (mid2 Q (stP b b' (Q.getD i (0, 0))) (stP w w' (Q.getD i (0, 0))) j).length 2 (prUF (mid2 Q (stP b b' (Q.getD i (0, 0))) (stP w w' (Q.getD i (0, 0))) j)), .var (gridD (nmV (mid2 Q (stP b b' (Q.getD i (0, 0))) (stP w w' (Q.getD i (0, 0))) j))), .var (.ar 2 1 (prU (Q.getD i (0, 0))))], fun j => 2 - j⟩) (0) (by omega) (gC [0, 1, 2, 3, 4, 5] (leC (leC (leC (leC (leC (leC leZ))))))) ?_
      intro j hj
      dsimp only at hj
      dsimp only [Hd.at]
      refine WP.seq ?_
      refine rS ?_
      refine WP.cond (by rfl) (fun hc => WP.skip ?_) (fun hc => WP.exit ?_)
      · have hj : j < 2 := by have := of_decide_eq_true hc; omega
        clear hc
        have hA1 : b (Q.getD i (0, 0)).1 < 16 := ha16.1
        have hA2 : b' (Q.getD i (0, 0)).2 < 16 := ha16.2
        have hC1 : w (Q.getD i (0, 0)).1 < 16 := hc16.1
        have hC2 : w' (Q.getD i (0, 0)).2 < 16 := hc16.2
        have hF0 : mid2 Q (stP b b' (Q.getD i (0, 0))) (stP w w' (Q.getD i (0, 0))) 0 = Q := rfl
        obtain rfl | rfl : j = 0 ∨ j = 1 := by omega
        · refine WP.seq (WP.block ?_)
          refine WP.seq ?_
          refine WP.da (by kernel_rfl) 12 (by kernel_rfl) ?_
          refine WA.takes T false tok [0, 1, 2, 3, 4, 5] (f' := 7) (by kernel_rfl) (by rfl) (by rfl) (by rfl) (by exact byObl) (by rfl) (by rfl) ?_
          refine WA.takes T false tok [6, 7, 8, 9, 10] (f' := 2) (by kernel_rfl) (by rfl) (by rfl) (by rfl) (by exact byObl) (by rfl) (by rfl) ?_
          refine WA.all [11] (by kernel_rfl) (by simp) ?_; intro i' hi'; simp only [List.mem_cons, List.not_mem_nil, or_false] at hi'
          subst hi'
          refine ⟨_, _, _, rfl, by rfl, by rfl, MK.of tok (wm := false) (by rfl) (by exact byObl) (by rfl) (by exact byObl), ?_⟩
          refine WA.tail (by rfl) (by rfl) (by kernel_rfl) ?_
          refine rF ?_
          refine noPan ?_
          refine WP.seq ?_
          refine rS ?_
          refine WP.cond (by rfl) (fun h => ?_) (fun h => ?_)
          · simp at h
          refine WP.skip ?_
          refine WP.seq ?_
          refine WP.drawsQ (by kernel_rfl) (by kernel_rfl) ?_
          refine WQ.fin T false tok (by rfl) (by rfl) (by exact byObl) ?_
          have hng := nmV_neg (Q := (mid2 Q (stP b b' (Q.getD i (0, 0))) (stP w w' (Q.getD i (0, 0))) 0)) (y := (stP b b' (Q.getD i (0, 0)))) ha16.1 ha16.2
          have hl : ((mid2 Q (stP b b' (Q.getD i (0, 0))) (stP w w' (Q.getD i (0, 0))) 0)).length ≤ 256 := hQl
          by_cases hm : (stP b b' (Q.getD i (0, 0))) ∈ (mid2 Q (stP b b' (Q.getD i (0, 0))) (stP w w' (Q.getD i (0, 0))) 0)
          · have hq : mid2 Q (stP b b' (Q.getD i (0, 0))) (stP w w' (Q.getD i (0, 0))) (0 + 1) = (mid2 Q (stP b b' (Q.getD i (0, 0))) (stP w w' (Q.getD i (0, 0))) 0) := if_pos hm
            have hLen := congrArg List.length hq
            refine WP.cond (by rfl) (fun h => ?_) (fun h => ?_)
            · have h := of_decide_eq_true h
              exact absurd hm (hng.1 h)
            refine WP.skip ?_
            refine rE ?_
            refine Again.next (0 + 1) (gC [0, 1, 2, 3, 4, 5] (LeAll.cons (by rfl) (by first | with_reducible exact Root.Le.refl _ | with_reducible exact le_dead | (first | exact le_var (by rw [hq]; rfl) | exact le_row (Nat.le_of_eq hLen) (fun j _ => by rw [hq])) | exact byLeq) (by exact byCon) (LeAll.cons (by rfl) (by first | with_reducible exact Root.Le.refl _ | with_reducible exact le_dead | (first | exact le_var (by rw [hq]; rfl) | exact le_row (Nat.le_of_eq hLen) (fun j _ => by rw [hq])) | exact byLeq) (by exact byCon) (LeAll.cons (by rfl) (by first | with_reducible exact Root.Le.refl _ | with_reducible exact le_dead | (first | exact le_var (by rw [hq]; rfl) | exact le_row (Nat.le_of_eq hLen) (fun j _ => by rw [hq])) | exact byLeq) (by exact byCon) (LeAll.cons (by rfl) (by first | with_reducible exact Root.Le.refl _ | with_reducible exact le_dead | (first | exact le_var (by rw [hq]; rfl) | exact le_row (Nat.le_of_eq hLen) (fun j _ => by rw [hq])) | exact byLeq) (by exact byCon) (LeAll.cons (by rfl) (by first | with_reducible exact Root.Le.refl _ | with_reducible exact le_dead | (first | exact le_var (by rw [hq]; rfl) | exact le_row (Nat.le_of_eq hLen) (fun j _ => by rw [hq])) | exact byLeq) (by exact byCon) (LeAll.cons (by rfl) (by first | with_reducible exact Root.Le.refl _ | with_reducible exact le_dead | (first | exact le_var (by rw [hq]; rfl) | exact le_row (Nat.le_of_eq hLen) (fun j _ => by rw [hq])) | exact byLeq) (by exact byCon) (leZ)))))))) (by omega) (by dsimp only; omega)
          · have hq : mid2 Q (stP b b' (Q.getD i (0, 0))) (stP w w' (Q.getD i (0, 0))) (0 + 1) = (mid2 Q (stP b b' (Q.getD i (0, 0))) (stP w w' (Q.getD i (0, 0))) 0) ++ [(stP b b' (Q.getD i (0, 0)))] := if_neg hm
            have hLen : (mid2 Q (stP b b' (Q.getD i (0, 0))) (stP w w' (Q.getD i (0, 0))) (0 + 1)).length = ((mid2 Q (stP b b' (Q.getD i (0, 0))) (stP w w' (Q.getD i (0, 0))) 0)).length + 1 := by rw [hq]; simp
            have hnw := nmV_new hm
            rw [← hq] at hnw
            refine WP.cond (by rfl) (fun h => ?_) (fun h => ?_)
            · refine WP.seq ?_
              refine WP.da (by kernel_rfl) 8 (by kernel_rfl) ?_
              refine WA.takes T false tok [0, 1, 2, 3, 4, 5, 6, 7] (f' := 1) (by kernel_rfl) (by rfl) (by rfl) (by rfl) (by exact byObl) (by rfl) (by rfl) ?_
              refine WA.tail (by rfl) (by rfl) (by kernel_rfl) ?_
              refine rF ?_
              refine noPan ?_
              refine rE ?_
              refine rE ?_
              refine Again.next (0 + 1) (gC [0, 1, 2, 8, 4, 5] (LeAll.cons (by rfl) (by first | with_reducible exact Root.Le.refl _ | with_reducible exact le_dead | (first | exact le_var (by rw [← hnw]; exact (grid_up (nmV ((mid2 Q (stP b b' (Q.getD i (0, 0))) (stP w w' (Q.getD i (0, 0))) 0))) (stP b b' (Q.getD i (0, 0))).1 (stP b b' (Q.getD i (0, 0))).2 ((mid2 Q (stP b b' (Q.getD i (0, 0))) (stP w w' (Q.getD i (0, 0))) 0)).length).symm) | exact le_row (Nat.le_of_eq hLen) (fun j hj => by rw [hq]; exact ap_prUF _ _ _ j (by have := Nat.lt_of_lt_of_le hj (Nat.le_of_eq hLen); omega))) | exact byLeq) (by exact byCon) (LeAll.cons (by rfl) (by first | with_reducible exact Root.Le.refl _ | with_reducible exact le_dead | (first | exact le_var (by rw [← hnw]; exact (grid_up (nmV ((mid2 Q (stP b b' (Q.getD i (0, 0))) (stP w w' (Q.getD i (0, 0))) 0))) (stP b b' (Q.getD i (0, 0))).1 (stP b b' (Q.getD i (0, 0))).2 ((mid2 Q (stP b b' (Q.getD i (0, 0))) (stP w w' (Q.getD i (0, 0))) 0)).length).symm) | exact le_row (Nat.le_of_eq hLen) (fun j hj => by rw [hq]; exact ap_prUF _ _ _ j (by have := Nat.lt_of_lt_of_le hj (Nat.le_of_eq hLen); omega))) | exact byLeq) (by exact byCon) (LeAll.cons (by rfl) (by first | with_reducible exact Root.Le.refl _ | with_reducible exact le_dead | (first | exact le_var (by rw [← hnw]; exact (grid_up (nmV ((mid2 Q (stP b b' (Q.getD i (0, 0))) (stP w w' (Q.getD i (0, 0))) 0))) (stP b b' (Q.getD i (0, 0))).1 (stP b b' (Q.getD i (0, 0))).2 ((mid2 Q (stP b b' (Q.getD i (0, 0))) (stP w w' (Q.getD i (0, 0))) 0)).length).symm) | exact le_row (Nat.le_of_eq hLen) (fun j hj => by rw [hq]; exact ap_prUF _ _ _ j (by have := Nat.lt_of_lt_of_le hj (Nat.le_of_eq hLen); omega))) | exact byLeq) (by exact byCon) (LeAll.cons (by rfl) (by first | with_reducible exact Root.Le.refl _ | with_reducible exact le_dead | (first | exact le_var (by rw [← hnw]; exact (grid_up (nmV ((mid2 Q (stP b b' (Q.getD i (0, 0))) (stP w w' (Q.getD i (0, 0))) 0))) (stP b b' (Q.getD i (0, 0))).1 (stP b b' (Q.getD i (0, 0))).2 ((mid2 Q (stP b b' (Q.getD i (0, 0))) (stP w w' (Q.getD i (0, 0))) 0)).length).symm) | exact le_row (Nat.le_of_eq hLen) (fun j hj => by rw [hq]; exact ap_prUF _ _ _ j (by have := Nat.lt_of_lt_of_le hj (Nat.le_of_eq hLen); omega))) | exact byLeq) (by exact byCon) (LeAll.cons (by rfl) (by first | with_reducible exact Root.Le.refl _ | with_reducible exact le_dead | (first | exact le_var (by rw [← hnw]; exact (grid_up (nmV ((mid2 Q (stP b b' (Q.getD i (0, 0))) (stP w w' (Q.getD i (0, 0))) 0))) (stP b b' (Q.getD i (0, 0))).1 (stP b b' (Q.getD i (0, 0))).2 ((mid2 Q (stP b b' (Q.getD i (0, 0))) (stP w w' (Q.getD i (0, 0))) 0)).length).symm) | exact le_row (Nat.le_of_eq hLen) (fun j hj => by rw [hq]; exact ap_prUF _ _ _ j (by have := Nat.lt_of_lt_of_le hj (Nat.le_of_eq hLen); omega))) | exact byLeq) (by exact byCon) (LeAll.cons (by rfl) (by first | with_reducible exact Root.Le.refl _ | with_reducible exact le_dead | (first | exact le_var (by rw [← hnw]; exact (grid_up (nmV ((mid2 Q (stP b b' (Q.getD i (0, 0))) (stP w w' (Q.getD i (0, 0))) 0))) (stP b b' (Q.getD i (0, 0))).1 (stP b b' (Q.getD i (0, 0))).2 ((mid2 Q (stP b b' (Q.getD i (0, 0))) (stP w w' (Q.getD i (0, 0))) 0)).length).symm) | exact le_row (Nat.le_of_eq hLen) (fun j hj => by rw [hq]; exact ap_prUF _ _ _ j (by have := Nat.lt_of_lt_of_le hj (Nat.le_of_eq hLen); omega))) | exact byLeq) (by exact byCon) (leZ)))))))) (by omega) (by dsimp only; omega)
            · have h := of_decide_eq_false h
              exact absurd (hng.2 hm) h
        · refine WP.seq (WP.block ?_)
          refine WP.seq ?_
          refine WP.da (by kernel_rfl) 12 (by kernel_rfl) ?_
          refine WA.takes T false tok [0, 1, 2, 3, 4, 5] (f' := 7) (by kernel_rfl) (by rfl) (by rfl) (by rfl) (by exact byObl) (by rfl) (by rfl) ?_
          refine WA.takes T false tok [6, 7, 8, 9, 10] (f' := 2) (by kernel_rfl) (by rfl) (by rfl) (by rfl) (by exact byObl) (by rfl) (by rfl) ?_
          refine WA.all [11] (by kernel_rfl) (by simp) ?_; intro i' hi'; simp only [List.mem_cons, List.not_mem_nil, or_false] at hi'
          subst hi'
          refine ⟨_, _, _, rfl, by rfl, by rfl, MK.of tok (wm := false) (by rfl) (by exact byObl) (by rfl) (by exact byObl), ?_⟩
          refine WA.tail (by rfl) (by rfl) (by kernel_rfl) ?_
          refine rF ?_
          refine noPan ?_
          refine WP.seq ?_
          refine rS ?_
          refine WP.cond (by rfl) (fun h => ?_) (fun h => ?_)
          case refine_2 => simp at h
          refine WP.da (by kernel_rfl) 11 (by kernel_rfl) ?_
          refine WA.takes T false tok [0, 1, 2, 3, 4, 5] (f' := 6) (by kernel_rfl) (by rfl) (by rfl) (by rfl) (by exact byObl) (by rfl) (by rfl) ?_
          refine WA.takes T false tok [6, 7, 8, 9, 10] (f' := 1) (by kernel_rfl) (by rfl) (by rfl) (by rfl) (by exact byObl) (by rfl) (by rfl) ?_
          refine WA.tail (by rfl) (by rfl) (by kernel_rfl) ?_
          refine rF ?_
          refine noPan ?_
          refine WP.seq ?_
          refine WP.drawsQ (by kernel_rfl) (by kernel_rfl) ?_
          refine WQ.fin T false tok (by rfl) (by rfl) (by exact byObl) ?_
          have hng := nmV_neg (Q := (mid2 Q (stP b b' (Q.getD i (0, 0))) (stP w w' (Q.getD i (0, 0))) 1)) (y := (stP w w' (Q.getD i (0, 0)))) hc16.1 hc16.2
          have hl : ((mid2 Q (stP b b' (Q.getD i (0, 0))) (stP w w' (Q.getD i (0, 0))) 1)).length ≤ 256 := hQ1
          by_cases hm : (stP w w' (Q.getD i (0, 0))) ∈ (mid2 Q (stP b b' (Q.getD i (0, 0))) (stP w w' (Q.getD i (0, 0))) 1)
          · have hq : mid2 Q (stP b b' (Q.getD i (0, 0))) (stP w w' (Q.getD i (0, 0))) (1 + 1) = (mid2 Q (stP b b' (Q.getD i (0, 0))) (stP w w' (Q.getD i (0, 0))) 1) := if_pos hm
            have hLen := congrArg List.length hq
            refine WP.cond (by rfl) (fun h => ?_) (fun h => ?_)
            · have h := of_decide_eq_true h
              exact absurd hm (hng.1 h)
            refine WP.skip ?_
            refine rE ?_
            refine Again.next (1 + 1) (gC [0, 1, 2, 3, 4, 5] (LeAll.cons (by rfl) (by first | with_reducible exact Root.Le.refl _ | with_reducible exact le_dead | (first | exact le_var (by rw [hq]; rfl) | exact le_row (Nat.le_of_eq hLen) (fun j _ => by rw [hq])) | exact byLeq) (by exact byCon) (LeAll.cons (by rfl) (by first | with_reducible exact Root.Le.refl _ | with_reducible exact le_dead | (first | exact le_var (by rw [hq]; rfl) | exact le_row (Nat.le_of_eq hLen) (fun j _ => by rw [hq])) | exact byLeq) (by exact byCon) (LeAll.cons (by rfl) (by first | with_reducible exact Root.Le.refl _ | with_reducible exact le_dead | (first | exact le_var (by rw [hq]; rfl) | exact le_row (Nat.le_of_eq hLen) (fun j _ => by rw [hq])) | exact byLeq) (by exact byCon) (LeAll.cons (by rfl) (by first | with_reducible exact Root.Le.refl _ | with_reducible exact le_dead | (first | exact le_var (by rw [hq]; rfl) | exact le_row (Nat.le_of_eq hLen) (fun j _ => by rw [hq])) | exact byLeq) (by exact byCon) (LeAll.cons (by rfl) (by first | with_reducible exact Root.Le.refl _ | with_reducible exact le_dead | (first | exact le_var (by rw [hq]; rfl) | exact le_row (Nat.le_of_eq hLen) (fun j _ => by rw [hq])) | exact byLeq) (by exact byCon) (LeAll.cons (by rfl) (by first | with_reducible exact Root.Le.refl _ | with_reducible exact le_dead | (first | exact le_var (by rw [hq]; rfl) | exact le_row (Nat.le_of_eq hLen) (fun j _ => by rw [hq])) | exact byLeq) (by exact byCon) (leZ)))))))) (by omega) (by dsimp only; omega)
          · have hq : mid2 Q (stP b b' (Q.getD i (0, 0))) (stP w w' (Q.getD i (0, 0))) (1 + 1) = (mid2 Q (stP b b' (Q.getD i (0, 0))) (stP w w' (Q.getD i (0, 0))) 1) ++ [(stP w w' (Q.getD i (0, 0)))] := if_neg hm
            have hLen : (mid2 Q (stP b b' (Q.getD i (0, 0))) (stP w w' (Q.getD i (0, 0))) (1 + 1)).length = ((mid2 Q (stP b b' (Q.getD i (0, 0))) (stP w w' (Q.getD i (0, 0))) 1)).length + 1 := by rw [hq]; simp
            have hnw := nmV_new hm
            rw [← hq] at hnw
            refine WP.cond (by rfl) (fun h => ?_) (fun h => ?_)
            · refine WP.seq ?_
              refine WP.da (by kernel_rfl) 8 (by kernel_rfl) ?_
              refine WA.takes T false tok [0, 1, 2, 3, 4, 5, 6, 7] (f' := 1) (by kernel_rfl) (by rfl) (by rfl) (by rfl) (by exact byObl) (by rfl) (by rfl) ?_
              refine WA.tail (by rfl) (by rfl) (by kernel_rfl) ?_
              refine rF ?_
              refine noPan ?_
              refine rE ?_
              refine rE ?_
              refine Again.next (1 + 1) (gC [0, 1, 2, 8, 4, 5] (LeAll.cons (by rfl) (by first | with_reducible exact Root.Le.refl _ | with_reducible exact le_dead | (first | exact le_var (by rw [← hnw]; exact (grid_up (nmV ((mid2 Q (stP b b' (Q.getD i (0, 0))) (stP w w' (Q.getD i (0, 0))) 1))) (stP w w' (Q.getD i (0, 0))).1 (stP w w' (Q.getD i (0, 0))).2 ((mid2 Q (stP b b' (Q.getD i (0, 0))) (stP w w' (Q.getD i (0, 0))) 1)).length).symm) | exact le_row (Nat.le_of_eq hLen) (fun j hj => by rw [hq]; exact ap_prUF _ _ _ j (by have := Nat.lt_of_lt_of_le hj (Nat.le_of_eq hLen); omega))) | exact byLeq) (by exact byCon) (LeAll.cons (by rfl) (by first | with_reducible exact Root.Le.refl _ | with_reducible exact le_dead | (first | exact le_var (by rw [← hnw]; exact (grid_up (nmV ((mid2 Q (stP b b' (Q.getD i (0, 0))) (stP w w' (Q.getD i (0, 0))) 1))) (stP w w' (Q.getD i (0, 0))).1 (stP w w' (Q.getD i (0, 0))).2 ((mid2 Q (stP b b' (Q.getD i (0, 0))) (stP w w' (Q.getD i (0, 0))) 1)).length).symm) | exact le_row (Nat.le_of_eq hLen) (fun j hj => by rw [hq]; exact ap_prUF _ _ _ j (by have := Nat.lt_of_lt_of_le hj (Nat.le_of_eq hLen); omega))) | exact byLeq) (by exact byCon) (LeAll.cons (by rfl) (by first | with_reducible exact Root.Le.refl _ | with_reducible exact le_dead | (first | exact le_var (by rw [← hnw]; exact (grid_up (nmV ((mid2 Q (stP b b' (Q.getD i (0, 0))) (stP w w' (Q.getD i (0, 0))) 1))) (stP w w' (Q.getD i (0, 0))).1 (stP w w' (Q.getD i (0, 0))).2 ((mid2 Q (stP b b' (Q.getD i (0, 0))) (stP w w' (Q.getD i (0, 0))) 1)).length).symm) | exact le_row (Nat.le_of_eq hLen) (fun j hj => by rw [hq]; exact ap_prUF _ _ _ j (by have := Nat.lt_of_lt_of_le hj (Nat.le_of_eq hLen); omega))) | exact byLeq) (by exact byCon) (LeAll.cons (by rfl) (by first | with_reducible exact Root.Le.refl _ | with_reducible exact le_dead | (first | exact le_var (by rw [← hnw]; exact (grid_up (nmV ((mid2 Q (stP b b' (Q.getD i (0, 0))) (stP w w' (Q.getD i (0, 0))) 1))) (stP w w' (Q.getD i (0, 0))).1 (stP w w' (Q.getD i (0, 0))).2 ((mid2 Q (stP b b' (Q.getD i (0, 0))) (stP w w' (Q.getD i (0, 0))) 1)).length).symm) | exact le_row (Nat.le_of_eq hLen) (fun j hj => by rw [hq]; exact ap_prUF _ _ _ j (by have := Nat.lt_of_lt_of_le hj (Nat.le_of_eq hLen); omega))) | exact byLeq) (by exact byCon) (LeAll.cons (by rfl) (by first | with_reducible exact Root.Le.refl _ | with_reducible exact le_dead | (first | exact le_var (by rw [← hnw]; exact (grid_up (nmV ((mid2 Q (stP b b' (Q.getD i (0, 0))) (stP w w' (Q.getD i (0, 0))) 1))) (stP w w' (Q.getD i (0, 0))).1 (stP w w' (Q.getD i (0, 0))).2 ((mid2 Q (stP b b' (Q.getD i (0, 0))) (stP w w' (Q.getD i (0, 0))) 1)).length).symm) | exact le_row (Nat.le_of_eq hLen) (fun j hj => by rw [hq]; exact ap_prUF _ _ _ j (by have := Nat.lt_of_lt_of_le hj (Nat.le_of_eq hLen); omega))) | exact byLeq) (by exact byCon) (LeAll.cons (by rfl) (by first | with_reducible exact Root.Le.refl _ | with_reducible exact le_dead | (first | exact le_var (by rw [← hnw]; exact (grid_up (nmV ((mid2 Q (stP b b' (Q.getD i (0, 0))) (stP w w' (Q.getD i (0, 0))) 1))) (stP w w' (Q.getD i (0, 0))).1 (stP w w' (Q.getD i (0, 0))).2 ((mid2 Q (stP b b' (Q.getD i (0, 0))) (stP w w' (Q.getD i (0, 0))) 1)).length).symm) | exact le_row (Nat.le_of_eq hLen) (fun j hj => by rw [hq]; exact ap_prUF _ _ _ j (by have := Nat.lt_of_lt_of_le hj (Nat.le_of_eq hLen); omega))) | exact byLeq) (by exact byCon) (leZ)))))))) (by omega) (by dsimp only; omega)
            · have h := of_decide_eq_false h
              exact absurd (hng.2 hm) h
      · have hj : j = 2 := by have := of_decide_eq_false hc; omega
        subst hj
        clear hc
        refine rE ?_
        refine Again.next ((i + 1, qst (stP w w' (Q.getD i (0, 0))) (qst (stP b b' (Q.getD i (0, 0))) Q))) (gC [0, 1, 2, 3, 4] (leC (leC (leC (leC (leC leZ)))))) (⟨h2, by have := qst_len (stP w w' (Q.getD i (0, 0))) (qst (stP b b' (Q.getD i (0, 0))) Q); have := qst_len (stP b b' (Q.getD i (0, 0))) Q; dsimp only; omega, by rw [h4]; exact hR⟩) (by dsimp only; omega)
    · have hi : ¬ i < Q.length := by have := of_decide_eq_false hc; omega
      clear hc
      rw [pres_end hi] at hR
      rw [← hR]
      refine WP.seq ?_
      refine WP.da (by kernel_rfl) 3 (by kernel_rfl) ?_
      refine WA.takes T false tok [0, 1, 2] (f' := 1) (by kernel_rfl) (by rfl) (by rfl) (by rfl) (by exact byObl) (by rfl) (by rfl) ?_
      refine WA.tail (by rfl) (by rfl) (by kernel_rfl) ?_
      refine rF ?_
      refine noPan ?_
      exact WP.ret (Ends.new [3] (by rfl) (by exact byObl) (leC leZ) rfl rfl (ren_t2 rfl ⟨rfl, sc_grid _ _⟩) (sc_t2 (sc_sl rfl) (sc_grid _ _)))
end Go.Proofs.Ythjnmlpibafbnaa
