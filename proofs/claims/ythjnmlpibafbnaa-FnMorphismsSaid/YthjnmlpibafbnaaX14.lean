import Derived.Test.YthjnmlpibafbnaaShelf
import Derived.Test.YthjnmlpibafbnaaL3
import Derived.Test.YthjnmlpibafbnaaD30
import Derived.Test.YthjnmlpibafbnaaL21
import Derived.Test.YthjnmlpibafbnaaD37
namespace Go.Proofs.Ythjnmlpibafbnaa
open Go.RowKit DM
set_option linter.unusedSimpArgs false
set_option linter.unusedVariables false
set_option maxRecDepth 100000
set_option maxHeartbeats 1000000
theorem bitsMul1_fn (N : Nat) (hN : N ≤ 65536) : FnP Try.prog 73 [.i .u64 (1 : Int), .i .u64 (N : Int)] (t2 (.i .u64 0) (.i .u64 (N : Int))) := by
  refine ⟨callFunc_run Try.func73 rfl rfl, fun ρ w hr hx => ?_⟩
  have hcall := Any.bits_Mul Try.laysL212 1 N (by omega) (by omega) w
  change Calls Try.prog 73 _ _ _ at hcall
  have e1 : 1 * N / 18446744073709551616 = 0 := by omega
  have e2 : 1 * N % 18446744073709551616 = N := by omega
  rw [e1, e2] at hcall
  refine hcall.mono ?_
  rintro e w' ⟨rfl, rfl⟩
  exact ⟨t2 (.i .u64 0) (.i .u64 (N : Int)), ρ, [], rfl, sc_t2 trivial trivial, ok_t2 ⟨trivial, trivial⟩ ⟨trivial, trivial⟩, hr, Tr.refl _ _ _, rfl, sc_t2 trivial trivial⟩
theorem repeat_fn (N : Nat) (h1 : 1 ≤ N) (hN : N ≤ 16) : FnS Try.prog 59 [.sl 0 0 1 1, .i .i64 (N : Int)] [.ro 1 1 (intD fun _ => -1)] (fun r m' => r = .sl 1 0 N 1 ∧ m' = [.ro 1 1 (intD fun _ => -1), .row 2 N 1 (intD fun _ => -1)]) := by
  refine FnS.intoN T tok Try.func59 (by rfl) rfl rfl rfl (by simp) ?_
  refine rS ?_
  refine WP.seq ?_
  refine rS ?_
  refine WP.cond (by rfl) (fun h => ?_) (fun h => WP.skip ?_)
  · have := of_decide_eq_true h; omega
  clear h
  refine WP.rw ?_
  refine rU 5 ?_
  refine cA (bitsMul1_fn N (by omega)) ?_
  refine rF ?_
  refine WP.seq ?_
  refine rS ?_
  refine WP.cond (by rfl) (fun h => ?_) (fun h => WP.skip ?_)
  · simp at h; omega
  clear h
  refine rS ?_
  refine WP.rw ?_
  refine rU 2 ?_
  refine WPL.op (by rfl) (by rfl) (ok_copy (F := fun _ => 0) (G := fun _ => -1) (k := 1) (n := N) (n2 := 1) (off := 0) (off2 := 0) (len := N) (len2 := 1) tok rfl rfl rfl rfl rfl rfl rfl (.inr rfl) (by simp only [Nat.min_def]; split <;> omega) (by omega) (by omega) (by omega)) ?_
  refine rF ?_
  refine WP.seq (WP.block ?_)
  refine WP.loopH (⟨fun c : Nat => 1 ≤ c ∧ c ≤ N, fun c => [(7, .sl 1 0 N 1), (8, .i .i64 (c : Int))], fun c => [.ro 1 1 (intD fun _ => -1), .row 2 N 1 (intD fun j => if j < c then -1 else 0)], fun c => N - c⟩) (1) (⟨Nat.le_refl _, h1⟩) (gC [0, 1] (LeAll.cons (by rfl) (by first | with_reducible exact Root.Le.refl _ | with_reducible exact le_dead | (exact le_row (Nat.le_refl _) (fun j hj => by unfold intD cpF; congr 1; simp)) | exact byLeq) (by exact byCon) (LeAll.cons (by rfl) (by first | with_reducible exact Root.Le.refl _ | with_reducible exact le_dead | (exact le_row (Nat.le_refl _) (fun j hj => by unfold intD cpF; congr 1; simp)) | exact byLeq) (by exact byCon) (leZ)))) ?_
  rintro c ⟨hc1, hc2⟩
  dsimp only [Hd.at]
  refine WP.seq ?_
  refine rS ?_
  refine WP.cond (by rfl) (fun hc => WP.skip ?_) (fun hc => WP.exit ?_)
  · have hcN : c < N := by have := of_decide_eq_true hc; omega
    clear hc
    refine WP.block ?_
    refine WP.da (by kernel_rfl) 7 (by kernel_rfl) ?_
    refine WA.move 0 (by rfl) (by first | exact .inl rfl | exact .inr rfl) (by kernel_rfl) (by kernel_rfl) (by rfl) (by rfl) ?_
    refine WA.move 1 (by rfl) (by first | exact .inl rfl | exact .inr rfl) (by kernel_rfl) (by kernel_rfl) (by rfl) (by rfl) ?_
    refine WA.move 2 (by rfl) (by first | exact .inl rfl | exact .inr rfl) (by kernel_rfl) (by kernel_rfl) (by rfl) (by rfl) ?_
    refine WA.take (i := 3) (by rfl) (by decide) (by kernel_rfl) (by kernel_rfl) (by kernel_rfl) (by rfl) (by rfl) (sll_ok (l := c) (n := N) (off := 0) (len := N) tok rfl rfl rfl rfl rfl rfl rfl (by omega) (by omega)) ?_
    refine WA.move 4 (by rfl) (by first | exact .inl rfl | exact .inr rfl) (by kernel_rfl) (by kernel_rfl) (by rfl) (by rfl) ?_
    refine WA.move 5 (by rfl) (by first | exact .inl rfl | exact .inr rfl) (by kernel_rfl) (by kernel_rfl) (by rfl) (by rfl) ?_
    refine WA.take (i := 6) (by rfl) (by decide) (by kernel_rfl) (by kernel_rfl) (by kernel_rfl) (by rfl) (by rfl) (slh_ok (h := c) (n := N) (off := 0) tok rfl rfl rfl rfl rfl rfl rfl (by omega)) ?_
    refine WA.tail (by rfl) (by rfl) (by kernel_rfl) ?_
    refine WPL.op (by rfl) (by rfl) (ok_copy (F := fun j => if j < c then -1 else 0) (G := fun j => if j < c then -1 else 0) (k := Nat.min c (N - c)) (n := N) (n2 := N) (off := 0 + c) (off2 := 0) (len := N - c) (len2 := c) tok rfl rfl rfl rfl rfl rfl rfl (.inl ⟨_, rfl⟩) rfl (by simp only [Nat.min_def]; split <;> omega) (by simp only [Nat.min_def]; split <;> omega) (by omega)) ?_
    have hk : Nat.min c (N - c) ≤ c ∧ Nat.min c (N - c) ≤ N - c ∧ 1 ≤ Nat.min c (N - c) := by simp only [Nat.min_def]; split <;> omega
    generalize Nat.min c (N - c) = k at *
    refine rF ?_
    refine noPan ?_
    rw [show ((c : Nat) : Int) + ((k : Nat) : Int) = ((c + k : Nat) : Int) from rfl]
    have hle : ∀ j, intD (fun j => if j < c + k then -1 else 0) j = intD (cpF (fun j => if j < c then -1 else 0) (fun j => if j < c then -1 else 0) (0 + c) 0 k) j := fun j => by
      unfold intD cpF
      congr 1
      show (if j < c + k then (-1 : Int) else 0) = if 0 + c ≤ j ∧ j < 0 + c + k then (if 0 + (j - (0 + c)) < c then -1 else 0) else (if j < c then -1 else 0)
      by_cases a1 : j < c
      · rw [if_pos (show j < c + k by omega), if_neg (show ¬ (0 + c ≤ j ∧ j < 0 + c + k) by omega), if_pos a1]
      · by_cases a2 : j < c + k
        · rw [if_pos a2, if_pos (show 0 + c ≤ j ∧ j < 0 + c + k by omega), if_pos (show 0 + (j - (0 + c)) < c by omega)]
        · rw [if_neg a2, if_neg (show ¬ (0 + c ≤ j ∧ j < 0 + c + k) by omega), if_neg a1]
    refine Again.next (c + k) (gC [0, 1] (LeAll.cons (by rfl) (by first | with_reducible exact Root.Le.refl _ | with_reducible exact le_dead | (exact le_row (Nat.le_refl _) (fun j hj => hle j)) | exact byLeq) (by exact byCon) (LeAll.cons (by rfl) (by first | with_reducible exact Root.Le.refl _ | with_reducible exact le_dead | (exact le_row (Nat.le_refl _) (fun j hj => hle j)) | exact byLeq) (by exact byCon) (leZ)))) (⟨by omega, by omega⟩) (by dsimp only; omega)
  · have hcN : c = N := by have := of_decide_eq_false hc; omega
    subst hcN
    refine rS ?_
    exact WP.ret (Ends.new [0, 1] (by rfl) (by exact byObl) (LeAll.cons (by rfl) (by first | with_reducible exact Root.Le.refl _ | with_reducible exact le_dead | (exact le_row (Nat.le_refl _) (fun j hj => by simp only [intD, if_pos hj])) | exact byLeq) (by exact byCon) (LeAll.cons (by rfl) (by first | with_reducible exact Root.Le.refl _ | with_reducible exact le_dead | (exact le_row (Nat.le_refl _) (fun j hj => by simp only [intD, if_pos hj])) | exact byLeq) (by exact byCon) (leZ))) rfl rfl (rfl) (sc_sl rfl))
theorem named_fn (N : Nat) (b w : Nat → Nat) (x : Nat) (hx : x < N) (hN : N ≤ 16) (hb : ∀ i, i < N → b i < N) (hw : ∀ i, i < N → w i < N) : FnS Try.prog 60 [ds_ N b w, .i .i64 x] [] (fun r m' => r = .sl 0 0 (bfsF b w x).length 1 ∧ m' = [.row 5 (bfsF b w x).length 1 (bytesF (bfsF b w x))]) := by
  refine FnS.intoN T tok Try.func60 (by rfl) rfl rfl rfl (by simp) ?_
  refine rS ?_
  refine rS ?_
  refine rS ?_
  refine rS ?_
  refine WP.seq ?_
  refine rS ?_
  refine WP.block ?_
  refine WP.loopH (⟨fun s : Nat × (List Nat × (Nat → Bool)) => BInv N s.2 ∧ s.1 ≤ s.2.1.length ∧ bres b w s.1 s.2 = bres b w 0 (bx x), fun s => [(2, .p 0 [] 0), (5, .p 1 [] 0), (6, .sl 2 0 s.2.1.length 1), (7, .i .i64 (s.1 : Int))], fun s => [.var (ds_ N b w), .var (bl s.2.2), .row 5 s.2.1.length 1 (bytesF s.2.1)], fun s => bmu s.1 s.2⟩) ((0, bx x)) (⟨bx_inv hx hN, Nat.zero_le _, rfl⟩) (gC [0, 1, 2] (LeAll.cons (by rfl) (by first | with_reducible exact Root.Le.refl _ | with_reducible exact le_dead | (exact le_row (Nat.le_refl _) (fun j hj => by obtain rfl : j = 0 := (by have : j < 1 := hj; omega); rfl)) | exact byLeq) (by exact byCon) (LeAll.cons (by rfl) (by first | with_reducible exact Root.Le.refl _ | with_reducible exact le_dead | (exact le_row (Nat.le_refl _) (fun j hj => by obtain rfl : j = 0 := (by have : j < 1 := hj; omega); rfl)) | exact byLeq) (by exact byCon) (LeAll.cons (by rfl) (by first | with_reducible exact Root.Le.refl _ | with_reducible exact le_dead | (exact le_row (Nat.le_refl _) (fun j hj => by obtain rfl : j = 0 := (by have : j < 1 := hj; omega); rfl)) | exact byLeq) (by exact byCon) (leZ))))) ?_
  rintro ⟨i, Q, met⟩ ⟨hI, hle, hF⟩
  simp only at hI hle hF
  dsimp only [Hd.at]
  refine WP.seq ?_
  refine rS ?_
  refine WP.cond (by rfl) (fun hc => WP.skip ?_) (fun hc => WP.exit ?_)
  · have hi : i < Q.length := by have := of_decide_eq_true hc; omega
    clear hc
    have hy := hI.get hi
    simp only at hy
    have hpx := hb _ hy
    have hqx := hw _ hy
    have hI1 := hI.bst hN hpx
    have hI2 := hI1.bst hN hqx
    refine WP.seq (WP.block ?_)
    refine WP.seq ?_
    refine WP.floatT (by kernel_rfl) 16 (by rfl) (by kernel_rfl) (by rfl) ?_; refine WR.dt (T := T) 14 0 ?_
    refine HW.run false 14 tok (by rfl) (by exact byObl) ?_
    refine HW.finR tok 14 0 (by rfl) (by kernel_rfl) (by kernel_rfl) (by kernel_rfl) (by rfl) (by rfl) rfl rfl ?_
    refine rF ?_
    refine noPan ?_
    refine WP.block ?_
    refine WP.loopH (⟨fun s : Nat × (List Nat × (Nat → Bool)) => BInv N s.2 ∧ ((s.1 = 0 ∧ s.2 = (Q, met)) ∨ (s.1 = 1 ∧ s.2 = bst (b (Q.getD i 0)) (Q, met)) ∨ (s.1 = 2 ∧ s.2 = bst (w (Q.getD i 0)) (bst (b (Q.getD i 0)) (Q, met)))), fun s => [(2, .p 0 [] 0), (5, .p 1 [] 0), (6, .sl 2 0 s.2.1.length 1), (7, .i .i64 (i : Int)), (36, .sl 3 0 2 1), (37, .i .i64 2), (38, .i .i64 (s.1 : Int))], fun s => [.var (ds_ N b w), .var (bl s.2.2), .row 5 s.2.1.length 1 (bytesF s.2.1), .row 5 2 1 (bytesF [b (Q.getD i 0), w (Q.getD i 0)])], fun s => 2 - s.1⟩) ((0, (Q, met))) (⟨hI, .inl ⟨rfl, rfl⟩⟩) (gC [0, 1, 2, 3] (LeAll.cons (by rfl) (by first | with_reducible exact Root.Le.refl _ | with_reducible exact le_dead | (exact le_row (Nat.le_refl _) (fun j hj => by rcases j with _ | _ | j <;> first | rfl | omega)) | exact byLeq) (by exact byCon) (LeAll.cons (by rfl) (by first | with_reducible exact Root.Le.refl _ | with_reducible exact le_dead | (exact le_row (Nat.le_refl _) (fun j hj => by rcases j with _ | _ | j <;> first | rfl | omega)) | exact byLeq) (by exact byCon) (LeAll.cons (by rfl) (by first | with_reducible exact Root.Le.refl _ | with_reducible exact le_dead | (exact le_row (Nat.le_refl _) (fun j hj => by rcases j with _ | _ | j <;> first | rfl | omega)) | exact byLeq) (by exact byCon) (LeAll.cons (by rfl) (by first | with_reducible exact Root.Le.refl _ | with_reducible exact le_dead | (exact le_row (Nat.le_refl _) (fun j hj => by rcases j with _ | _ | j <;> first | rfl | omega)) | exact byLeq) (by exact byCon) (leZ)))))) ?_
    rintro ⟨k, R, mt⟩ ⟨hJ, hk⟩
    simp only at hJ hk
    dsimp only [Hd.at]
    refine rS ?_
    refine WP.seq ?_
    refine WP.cond (by rfl) (fun hc => WP.skip ?_) (fun hc => WP.exit ?_)
    · have hk2 : k < 2 := by have := of_decide_eq_true hc; omega
      clear hc
      refine WP.seq (WP.block ?_)
      have hy : [b (Q.getD i 0), w (Q.getD i 0)].getD k 0 < N ∧ ((k + 1 = 1 ∧ bst ([b (Q.getD i 0), w (Q.getD i 0)].getD k 0) (R, mt) = bst (b (Q.getD i 0)) (Q, met)) ∨ (k + 1 = 2 ∧ bst ([b (Q.getD i 0), w (Q.getD i 0)].getD k 0) (R, mt) = bst (w (Q.getD i 0)) (bst (b (Q.getD i 0)) (Q, met)))) := by
        rcases hk with ⟨rfl, e⟩ | ⟨rfl, e⟩ | ⟨rfl, e⟩
        · exact ⟨hpx, .inl ⟨rfl, by rw [e]; rfl⟩⟩
        · exact ⟨hqx, .inr ⟨rfl, by rw [e]; rfl⟩⟩
        · omega
      obtain ⟨hy1, hy2⟩ := hy
      have hJ1 := hJ.bst hN hy1
      have hlen : R.length ≤ 16 := by have := hJ.len; simp only at this; omega
      generalize hyy : [b (Q.getD i 0), w (Q.getD i 0)].getD k 0 = y at hy1 hy2 hJ1
      have hb' : bytesF [b (Q.getD i 0), w (Q.getD i 0)] k = .i .u8 ((y : Nat) : Int) := by unfold bytesF; rw [hyy]
      have hy16 : [b (Q.getD i 0), w (Q.getD i 0)].getD k 0 < 16 := by omega
      refine rS ?_
      refine rS ?_
      cases hm : mt y
      · have e1 : bst y (R, mt) = (R ++ [y], up mt y true) := bst_new hm
        refine WP.cond (by rfl) (fun h => ?_) (fun h => WP.skip ?_)
        · refine rS ?_
          refine rE ?_
          refine rE ?_
          refine Again.next ((k + 1, (R ++ [y], up mt y true))) (gC [0, 1, 5, 3] (LeAll.cons (by rfl) (by first | with_reducible exact Root.Le.refl _ | with_reducible exact le_dead | (first | exact le_row (by simp) (fun j hj => (ap_bytes R y _ j (by simpa using hj)).trans (by unfold bytesF; rw [← hyy]; rfl)) | exact le_var (by rw [← hyy]; exact byVareq)) | exact byLeq) (by exact byCon) (LeAll.cons (by rfl) (by first | with_reducible exact Root.Le.refl _ | with_reducible exact le_dead | (first | exact le_row (by simp) (fun j hj => (ap_bytes R y _ j (by simpa using hj)).trans (by unfold bytesF; rw [← hyy]; rfl)) | exact le_var (by rw [← hyy]; exact byVareq)) | exact byLeq) (by exact byCon) (LeAll.cons (by rfl) (by first | with_reducible exact Root.Le.refl _ | with_reducible exact le_dead | (first | exact le_row (by simp) (fun j hj => (ap_bytes R y _ j (by simpa using hj)).trans (by unfold bytesF; rw [← hyy]; rfl)) | exact le_var (by rw [← hyy]; exact byVareq)) | exact byLeq) (by exact byCon) (LeAll.cons (by rfl) (by first | with_reducible exact Root.Le.refl _ | with_reducible exact le_dead | (first | exact le_row (by simp) (fun j hj => (ap_bytes R y _ j (by simpa using hj)).trans (by unfold bytesF; rw [← hyy]; rfl)) | exact le_var (by rw [← hyy]; exact byVareq)) | exact byLeq) (by exact byCon) (leZ)))))) (⟨e1 ▸ hJ1, .inr (e1 ▸ hy2)⟩) (by dsimp only; omega)
        · have h2 : (!mt ([b (Q.getD i 0), w (Q.getD i 0)].getD k 0)) = _ := h; rw [hyy, hm] at h2; cases h2
      · have e1 : bst y (R, mt) = (R, mt) := bst_old hm
        refine WP.cond (by rfl) (fun h => ?_) (fun h => WP.skip ?_)
        · have h2 : (!mt ([b (Q.getD i 0), w (Q.getD i 0)].getD k 0)) = _ := h; rw [hyy, hm] at h2; cases h2
        · refine rE ?_
          refine Again.next ((k + 1, (R, mt))) (gC [0, 1, 2, 3] (leC (leC (leC (leC leZ))))) (⟨hJ, .inr (e1 ▸ hy2)⟩) (by dsimp only; omega)
    · have hk : k = 2 ∧ (R, mt) = bst (w (Q.getD i 0)) (bst (b (Q.getD i 0)) (Q, met)) := by
        have := of_decide_eq_false hc
        rcases hk with ⟨rfl, _⟩ | ⟨rfl, _⟩ | h
        · simp at this
        · simp at this
        · exact h
      obtain ⟨rfl, e⟩ := hk
      have hr := bmu_round hN hb hw hI hi
      have hs := bres_step hN hb hw hI hi
      simp only at hr hs
      rw [← e] at hr hs
      have hl := bmu_bst hN (s := (Q, met)) hpx i (by simp only; omega)
      have hl2 := bmu_bst hN (s := bst (b (Q.getD i 0)) (Q, met)) hqx i (by simp only at hl ⊢; omega)
      rw [← e] at hl2
      simp only at hl hl2
      have hQl : Q.length ≤ 16 := by have := hI.len; simp only at this; omega
      refine rE ?_
      refine Again.next ((i + 1, (R, mt))) (gC [0, 1, 2] (leC (leC (leC leZ)))) (⟨hr.1, by simp only; omega, hs.trans hF⟩) (by exact hr.2)
  · have hi : ¬ i < Q.length := by have := of_decide_eq_false hc; omega
    have hB : bfsF b w x = Q := by unfold bfsF; rw [← hF, bres_end hi]
    rw [hB]
    refine rS ?_
    exact WP.ret (Ends.new [2] (by rfl) (by exact byObl) (leC leZ) rfl rfl (rfl) (sc_sl rfl))
theorem isDart1_fn (n : Int) (b w : Nat → Nat) (x : Int) : FnR Try.prog 38 [ds_ n b w, .sl 0 0 1 1] [.ro 1 1 (fun _ => .i .i64 x)] (.b (decide (0 ≤ x) && decide (x < n))) := by
  refine FnS.into T tok Try.func38 (by rfl) rfl rfl rfl (by simp) ?_
  refine rS ?_
  refine WP.seq ?_
  refine rS ?_
  refine WP.block ?_
  refine WP.loopH (⟨fun k : Nat => k = 0 ∨ (k = 1 ∧ (decide (0 ≤ x) && decide (x < n)) = true), fun k => [(2, .p 1 [] 0), (7, .sl 0 0 1 1), (8, .i .i64 1), (9, .i .i64 (k : Int))], fun k => [.ro 1 1 (fun _ => .i .i64 x), .var (ds_ n b w)], fun k => 1 - k⟩) (0) (.inl rfl) (gC [0, 1] (leC (leC leZ))) ?_
  intro k hk
  dsimp only at hk
  dsimp only [Hd.at]
  refine rS ?_
  refine WP.seq ?_
  refine WP.cond (by rfl) (fun hc => WP.skip ?_) (fun hc => WP.exit ?_)
  · have hk0 : k = 0 := by have := of_decide_eq_true hc; omega
    subst hk0
    clear hc
    refine WP.seq (WP.block ?_)
    refine rS ?_
    refine WP.seq ?_
    refine WP.region ?_
    refine rU 2 ?_
    cases h1 : decide (x < 0)
    · have h1' : 0 ≤ x := by have := of_decide_eq_false h1; omega
      refine rF ?_
      refine WP.cond (by rfl) (fun h => ?_) (fun h => WP.skip ?_)
      · have h := of_decide_eq_true h
        have e : (decide (0 ≤ x) && decide (x < n)) = false := by simp; omega
        rw [e]
        refine rS ?_
        exact WP.ret (Ends.val (by rfl) (by exact byObl) (by rfl) (by trivial))
      · have h := of_decide_eq_false h
        have e : (decide (0 ≤ x) && decide (x < n)) = true := by simp; omega
        refine rE ?_
        refine Again.next (1) (gC [0, 1] (leC (leC leZ))) (.inr ⟨rfl, e⟩) (by dsimp only; omega)
    · have h1' : x < 0 := of_decide_eq_true h1
      have e : (decide (0 ≤ x) && decide (x < n)) = false := by simp; omega
      refine rF ?_
      refine WP.cond (by rfl) (fun h => ?_) (fun h => WP.skip ?_)
      · rw [e]
        refine rS ?_
        exact WP.ret (Ends.val (by rfl) (by exact byObl) (by rfl) (by trivial))
      · cases h
  · rcases hk with rfl | ⟨rfl, e⟩
    · simp at hc
    · rw [e]
      refine rS ?_
      exact WP.ret (Ends.val (by rfl) (by exact byObl) (by rfl) (by trivial))
theorem l02Naming_fn (N : Nat) (b w : Nat → Nat) (x : Nat) (hx : x < N) (hN : N ≤ 16) (hb : ∀ i, i < N → b i < N) (hw : ∀ i, i < N → w i < N) : FnP Try.prog 52 [ds_ N b w, .i .i64 x] (pl (nameF b w x)) := by
  have hpre : ∀ (i : Nat) (s : List Nat × (Nat → Bool)), bres b w i s = bres b w 0 (bx x) → i < s.1.length → (bfsF b w x).getD i 0 = s.1.getD i 0 := by
    intro i s hs hi
    unfold bfsF
    rw [← hs]
    exact pre_getD (brun_pre _ _ _ _ _) hi
  have hlen := bfsF_len hN hb hw hx
  have hfin : ∀ (i : Nat) (s : List Nat × (Nat → Bool)), bres b w i s = bres b w 0 (bx x) → ¬ i < s.1.length → bfsF b w x = s.1 := fun i s hs hi => by unfold bfsF; rw [← hs, bres_end hi]
  unfold nameF
  generalize bfsF b w x = F at *
  refine FnS.into T tok Try.func52 (by rfl) rfl rfl rfl (by simp) ?_
  refine rS ?_
  refine rS ?_
  refine rS ?_
  refine WP.seq ?_
  refine rS ?_
  refine WP.block ?_
  refine WP.loopH (⟨fun s : Nat × (List Nat × (Nat → Bool)) => BInv N s.2 ∧ s.1 ≤ s.2.1.length ∧ bres b w s.1 s.2 = bres b w 0 (bx x), fun s => [(2, .p 0 [] 0), (4, .p 1 [] 0), (5, .p 2 [] 0), (6, .p 3 [] 0), (7, .sl 4 0 s.2.1.length 1), (8, .i .i64 (s.1 : Int))], fun s => [.var (ds_ N b w), .var (pl fun _ => 0), .var (pl (nmTo F s.1)), .var (bl s.2.2), .row 5 s.2.1.length 1 (bytesF s.2.1)], fun s => bmu s.1 s.2⟩) ((0, bx x)) (⟨bx_inv hx hN, Nat.zero_le _, rfl⟩) (gC [0, 1, 3, 4, 2] (LeAll.cons (by rfl) (by first | with_reducible exact Root.Le.refl _ | with_reducible exact le_dead | (exact le_row (Nat.le_refl _) (fun j hj => by obtain rfl : j = 0 := (by have : j < 1 := hj; omega); rfl)) | exact byLeq) (by exact byCon) (LeAll.cons (by rfl) (by first | with_reducible exact Root.Le.refl _ | with_reducible exact le_dead | (exact le_row (Nat.le_refl _) (fun j hj => by obtain rfl : j = 0 := (by have : j < 1 := hj; omega); rfl)) | exact byLeq) (by exact byCon) (LeAll.cons (by rfl) (by first | with_reducible exact Root.Le.refl _ | with_reducible exact le_dead | (exact le_row (Nat.le_refl _) (fun j hj => by obtain rfl : j = 0 := (by have : j < 1 := hj; omega); rfl)) | exact byLeq) (by exact byCon) (LeAll.cons (by rfl) (by first | with_reducible exact Root.Le.refl _ | with_reducible exact le_dead | (exact le_row (Nat.le_refl _) (fun j hj => by obtain rfl : j = 0 := (by have : j < 1 := hj; omega); rfl)) | exact byLeq) (by exact byCon) (LeAll.cons (by rfl) (by first | with_reducible exact Root.Le.refl _ | with_reducible exact le_dead | (exact le_row (Nat.le_refl _) (fun j hj => by obtain rfl : j = 0 := (by have : j < 1 := hj; omega); rfl)) | exact byLeq) (by exact byCon) (leZ))))))) ?_
  rintro ⟨i, Q, met⟩ ⟨hI, hle, hF⟩
  simp only at hI hle hF
  dsimp only [Hd.at]
  refine WP.seq ?_
  refine rS ?_
  refine WP.cond (by rfl) (fun hc => WP.skip ?_) (fun hc => WP.exit ?_)
  · have hi : i < Q.length := by have := of_decide_eq_true hc; omega
    clear hc
    have hy := hI.get hi
    simp only at hy
    have hpx := hb _ hy
    have hqx := hw _ hy
    have hI1 := hI.bst hN hpx
    have hI2 := hI1.bst hN hqx
    have hQl : Q.length ≤ 16 := by have := hI.len; simp only at this; omega
    have hFi := hpre i (Q, met) hF hi
    simp only at hFi
    have hup : up (nmTo F i) (Q.getD i 0) i = nmTo F (i + 1) := by rw [← hFi]; rfl
    refine WP.seq (WP.block ?_)
    refine rS ?_
    refine rS ?_
    refine rS ?_
    refine WP.block ?_
    refine WP.loopH (⟨fun s : Nat × (List Nat × (Nat → Bool)) => BInv N s.2 ∧ ((s.1 = 0 ∧ s.2 = (Q, met)) ∨ (s.1 = 1 ∧ s.2 = bst (b (Q.getD i 0)) (Q, met)) ∨ (s.1 = 2 ∧ s.2 = bst (w (Q.getD i 0)) (bst (b (Q.getD i 0)) (Q, met)))), fun s => [(2, .p 0 [] 0), (4, .p 1 [] 0), (5, .p 2 [] 0), (6, .p 3 [] 0), (7, .sl 4 0 s.2.1.length 1), (8, .i .i64 (i : Int)), (9, .i .u8 ((Q.getD i 0 : Nat) : Int)), (10, .i .i64 (s.1 : Int))], fun s => [.var (ds_ N b w), .var (pl fun _ => 0), .var (pl (nmTo F (i + 1))), .var (bl s.2.2), .row 5 s.2.1.length 1 (bytesF s.2.1)], fun s => 2 - s.1⟩) ((0, (Q, met))) (⟨hI, .inl ⟨rfl, rfl⟩⟩) (gC [0, 1, 2, 3, 4] (LeAll.cons (by rfl) (by first | with_reducible exact Root.Le.refl _ | with_reducible exact le_dead | (exact le_var (by rw [← hup]; exact byVareq)) | exact byLeq) (by exact byCon) (LeAll.cons (by rfl) (by first | with_reducible exact Root.Le.refl _ | with_reducible exact le_dead | (exact le_var (by rw [← hup]; exact byVareq)) | exact byLeq) (by exact byCon) (LeAll.cons (by rfl) (by first | with_reducible exact Root.Le.refl _ | with_reducible exact le_dead | (exact le_var (by rw [← hup]; exact byVareq)) | exact byLeq) (by exact byCon) (LeAll.cons (by rfl) (by first | with_reducible exact Root.Le.refl _ | with_reducible exact le_dead | (exact le_var (by rw [← hup]; exact byVareq)) | exact byLeq) (by exact byCon) (LeAll.cons (by rfl) (by first | with_reducible exact Root.Le.refl _ | with_reducible exact le_dead | (exact le_var (by rw [← hup]; exact byVareq)) | exact byLeq) (by exact byCon) (leZ))))))) ?_
    rintro ⟨k, R, mt⟩ ⟨hJ, hk⟩
    simp only at hJ hk
    dsimp only [Hd.at]
    have hlen' : R.length ≤ 16 := by have := hJ.len; simp only at this; omega
    refine WP.seq ?_
    refine rS ?_
    refine WP.cond (by rfl) (fun hc => WP.skip ?_) (fun hc => WP.exit ?_)
    · have hk2 : k < 2 := by have := of_decide_eq_true hc; omega
      clear hc
      refine WP.seq (WP.block ?_)
      refine rS ?_
      refine WP.seq ?_
      refine rS ?_
      rcases hk with ⟨rfl, e⟩ | ⟨rfl, e⟩ | ⟨rfl, e⟩
      · have hJ1 := hJ.bst hN hpx
        have hy2 : bst (b (Q.getD i 0)) (R, mt) = bst (b (Q.getD i 0)) (Q, met) := by rw [e]
        have hy16 : b (Q.getD i 0) < 16 := by omega
        refine WP.cond (by rfl) (fun h0 => ?_) (fun h0 => WP.skip ?_)
        · simp at h0
        · refine rS ?_
          cases hm : mt (b (Q.getD i 0))
          · have e1 : bst (b (Q.getD i 0)) (R, mt) = (R ++ [(b (Q.getD i 0))], up mt (b (Q.getD i 0)) true) := bst_new hm
            refine WP.cond (by rfl) (fun h => ?_) (fun h => WP.skip ?_)
            · refine rS ?_
              refine rE ?_
              refine rE ?_
              refine Again.next ((1, (R ++ [(b (Q.getD i 0))], up mt (b (Q.getD i 0)) true))) (gC [0, 1, 2, 3, 6] (LeAll.cons (by rfl) (by first | with_reducible exact Root.Le.refl _ | with_reducible exact le_dead | (exact le_row (by simp) (fun j hj => ap_bytes R (b (Q.getD i 0)) _ j (by simpa using hj))) | exact byLeq) (by exact byCon) (LeAll.cons (by rfl) (by first | with_reducible exact Root.Le.refl _ | with_reducible exact le_dead | (exact le_row (by simp) (fun j hj => ap_bytes R (b (Q.getD i 0)) _ j (by simpa using hj))) | exact byLeq) (by exact byCon) (LeAll.cons (by rfl) (by first | with_reducible exact Root.Le.refl _ | with_reducible exact le_dead | (exact le_row (by simp) (fun j hj => ap_bytes R (b (Q.getD i 0)) _ j (by simpa using hj))) | exact byLeq) (by exact byCon) (LeAll.cons (by rfl) (by first | with_reducible exact Root.Le.refl _ | with_reducible exact le_dead | (exact le_row (by simp) (fun j hj => ap_bytes R (b (Q.getD i 0)) _ j (by simpa using hj))) | exact byLeq) (by exact byCon) (LeAll.cons (by rfl) (by first | with_reducible exact Root.Le.refl _ | with_reducible exact le_dead | (exact le_row (by simp) (fun j hj => ap_bytes R (b (Q.getD i 0)) _ j (by simpa using hj))) | exact byLeq) (by exact byCon) (leZ))))))) (⟨e1 ▸ hJ1, .inr (.inl ⟨rfl, e1 ▸ hy2⟩)⟩) (by dsimp only; omega)
            · have h2 : (!mt (b (Q.getD i 0))) = _ := h; rw [hm] at h2; cases h2
          · have e1 : bst (b (Q.getD i 0)) (R, mt) = (R, mt) := bst_old hm
            refine WP.cond (by rfl) (fun h => ?_) (fun h => WP.skip ?_)
            · have h2 : (!mt (b (Q.getD i 0))) = _ := h; rw [hm] at h2; cases h2
            · refine rE ?_
              refine Again.next ((1, (R, mt))) (gC [0, 1, 2, 3, 4] (leC (leC (leC (leC (leC leZ)))))) (⟨hJ, .inr (.inl ⟨rfl, e1 ▸ hy2⟩)⟩) (by dsimp only; omega)
      · have hJ1 := hJ.bst hN hqx
        have hy2 : bst (w (Q.getD i 0)) (R, mt) = bst (w (Q.getD i 0)) (bst (b (Q.getD i 0)) (Q, met)) := by rw [e]
        have hy16 : w (Q.getD i 0) < 16 := by omega
        refine WP.cond (by rfl) (fun h0 => ?_) (fun h0 => WP.skip ?_)
        · refine rE ?_
          refine rS ?_
          cases hm : mt (w (Q.getD i 0))
          · have e1 : bst (w (Q.getD i 0)) (R, mt) = (R ++ [(w (Q.getD i 0))], up mt (w (Q.getD i 0)) true) := bst_new hm
            refine WP.cond (by rfl) (fun h => ?_) (fun h => WP.skip ?_)
            · refine rS ?_
              refine rE ?_
              refine rE ?_
              refine Again.next ((2, (R ++ [(w (Q.getD i 0))], up mt (w (Q.getD i 0)) true))) (gC [0, 1, 2, 3, 6] (LeAll.cons (by rfl) (by first | with_reducible exact Root.Le.refl _ | with_reducible exact le_dead | (exact le_row (by simp) (fun j hj => ap_bytes R (w (Q.getD i 0)) _ j (by simpa using hj))) | exact byLeq) (by exact byCon) (LeAll.cons (by rfl) (by first | with_reducible exact Root.Le.refl _ | with_reducible exact le_dead | (exact le_row (by simp) (fun j hj => ap_bytes R (w (Q.getD i 0)) _ j (by simpa using hj))) | exact byLeq) (by exact byCon) (LeAll.cons (by rfl) (by first | with_reducible exact Root.Le.refl _ | with_reducible exact le_dead | (exact le_row (by simp) (fun j hj => ap_bytes R (w (Q.getD i 0)) _ j (by simpa using hj))) | exact byLeq) (by exact byCon) (LeAll.cons (by rfl) (by first | with_reducible exact Root.Le.refl _ | with_reducible exact le_dead | (exact le_row (by simp) (fun j hj => ap_bytes R (w (Q.getD i 0)) _ j (by simpa using hj))) | exact byLeq) (by exact byCon) (LeAll.cons (by rfl) (by first | with_reducible exact Root.Le.refl _ | with_reducible exact le_dead | (exact le_row (by simp) (fun j hj => ap_bytes R (w (Q.getD i 0)) _ j (by simpa using hj))) | exact byLeq) (by exact byCon) (leZ))))))) (⟨e1 ▸ hJ1, .inr (.inr ⟨rfl, e1 ▸ hy2⟩)⟩) (by dsimp only; omega)
            · have h2 : (!mt (w (Q.getD i 0))) = _ := h; rw [hm] at h2; cases h2
          · have e1 : bst (w (Q.getD i 0)) (R, mt) = (R, mt) := bst_old hm
            refine WP.cond (by rfl) (fun h => ?_) (fun h => WP.skip ?_)
            · have h2 : (!mt (w (Q.getD i 0))) = _ := h; rw [hm] at h2; cases h2
            · refine rE ?_
              refine Again.next ((2, (R, mt))) (gC [0, 1, 2, 3, 4] (leC (leC (leC (leC (leC leZ)))))) (⟨hJ, .inr (.inr ⟨rfl, e1 ▸ hy2⟩)⟩) (by dsimp only; omega)
        · simp at h0
      · omega
    · have hk : k = 2 ∧ (R, mt) = bst (w (Q.getD i 0)) (bst (b (Q.getD i 0)) (Q, met)) := by
        have := of_decide_eq_false hc
        rcases hk with ⟨rfl, _⟩ | ⟨rfl, _⟩ | h
        · simp at this
        · simp at this
        · exact h
      obtain ⟨rfl, e⟩ := hk
      have hr := bmu_round hN hb hw hI hi
      have hs := bres_step hN hb hw hI hi
      simp only at hr hs
      rw [← e] at hr hs
      have hl := bmu_bst hN (s := (Q, met)) hpx i (by simp only; omega)
      have hl2 := bmu_bst hN (s := bst (b (Q.getD i 0)) (Q, met)) hqx i (by simp only at hl ⊢; omega)
      rw [← e] at hl2
      simp only at hl hl2
      refine rE ?_
      refine Again.next ((i + 1, (R, mt))) (gC [0, 1, 2, 3, 4] (leC (leC (leC (leC (leC leZ)))))) (⟨hr.1, by simp only; omega, hs.trans hF⟩) (by exact hr.2)
  · have hi : ¬ i < Q.length := by have := of_decide_eq_false hc; omega
    have hB := hfin i (Q, met) hF hi
    simp only at hB
    have hli : i = F.length := by rw [hB]; omega
    subst hli
    refine rS ?_
    exact WP.ret (Ends.val (by rfl) (by exact byObl) (by rfl) (by exact sc_pl _ _))
end Go.Proofs.Ythjnmlpibafbnaa
