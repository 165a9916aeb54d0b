import Derived.Test.YthjnmlpibafbnaaX3
import Derived.Test.YthjnmlpibafbnaaL2
namespace Go.Proofs.Ythjnmlpibafbnaa
open Go.RowKit DM
set_option linter.unusedSimpArgs false
set_option linter.unusedVariables false
set_option maxRecDepth 100000
set_option maxHeartbeats 1000000
theorem l01Connected_fn (p q : Nat → Nat) (n : Nat) (h1 : 1 ≤ n) (hn : n ≤ 16) (hp : ∀ i, i < n → p i < n) (hq : ∀ i, i < n → q i < n) : FnP Try.prog 51 [.i .i64 n, pl p, pl q] (.b (decide (((bfs p q).length : Int) = n))) := by
  refine FnS.into T tok Try.func51 (by rfl) rfl rfl rfl (by simp) ?_
  refine rS ?_
  refine rS ?_
  refine rS ?_
  refine WP.seq ?_
  refine rS ?_
  refine WP.block ?_
  refine WP.loopH (⟨fun x : Nat × (List Nat × (Nat → Bool)) => BInv n x.2 ∧ x.1 ≤ x.2.1.length ∧ bres p q x.1 x.2 = bres p q 0 b0, fun x => [(0, .i .i64 n), (4, .p 0 [] 0), (5, .p 1 [] 0), (7, .p 2 [] 0), (8, .sl 3 0 x.2.1.length 1), (9, .i .i64 (x.1 : Int))], fun x => [.var (pl p), .var (pl q), .var (bl x.2.2), .row 5 x.2.1.length 1 (bytesF x.2.1)], fun x => bmu x.1 x.2⟩) ((0, b0)) (⟨b0_inv h1, by decide, rfl⟩) (gC [0, 1, 3, 2] (LeAll.cons (by rfl) (by first | with_reducible exact Root.Le.refl _ | with_reducible exact le_dead | (exact le_row (Nat.le_refl _) (fun j hj => by obtain rfl : j = 0 := (by have : j < 1 := hj; omega); rfl)) | exact byLeq) (by exact byCon) (LeAll.cons (by rfl) (by first | with_reducible exact Root.Le.refl _ | with_reducible exact le_dead | (exact le_row (Nat.le_refl _) (fun j hj => by obtain rfl : j = 0 := (by have : j < 1 := hj; omega); rfl)) | exact byLeq) (by exact byCon) (LeAll.cons (by rfl) (by first | with_reducible exact Root.Le.refl _ | with_reducible exact le_dead | (exact le_row (Nat.le_refl _) (fun j hj => by obtain rfl : j = 0 := (by have : j < 1 := hj; omega); rfl)) | exact byLeq) (by exact byCon) (LeAll.cons (by rfl) (by first | with_reducible exact Root.Le.refl _ | with_reducible exact le_dead | (exact le_row (Nat.le_refl _) (fun j hj => by obtain rfl : j = 0 := (by have : j < 1 := hj; omega); rfl)) | exact byLeq) (by exact byCon) (leZ)))))) ?_
  rintro ⟨i, Q, met⟩ ⟨hI, hle, hF⟩
  simp only at hI hle hF
  dsimp only [Hd.at]
  refine WP.seq ?_
  refine rS ?_
  refine WP.cond (by rfl) (fun hc => WP.skip ?_) (fun hc => WP.exit ?_)
  · have hi : i < Q.length := by have := of_decide_eq_true hc; omega
    clear hc
    have hx : Q.getD i 0 < n := hI.get hi
    have hpx := hp _ hx
    have hqx := hq _ hx
    have hI1 := hI.bst hn hpx
    have hI2 := hI1.bst hn hqx
    refine WP.seq (WP.block ?_)
    refine WP.seq ?_
    refine WP.dt (T := T) 12 0 ?_
    refine HW.run false 12 tok (by rfl) (by exact byObl) ?_
    refine HW.fin tok (by kernel_rfl) 12 0 (by rfl) (by kernel_rfl) (by kernel_rfl) (by kernel_rfl) (by rfl) (by rfl) rfl rfl ?_
    refine rF ?_
    refine rS ?_
    refine WP.block ?_
    refine WP.loopH (⟨fun x : Nat × (List Nat × (Nat → Bool)) => BInv n x.2 ∧ ((x.1 = 0 ∧ x.2 = (Q, met)) ∨ (x.1 = 1 ∧ x.2 = bst (p (Q.getD i 0)) (Q, met)) ∨ (x.1 = 2 ∧ x.2 = bst (q (Q.getD i 0)) (bst (p (Q.getD i 0)) (Q, met)))), fun x => [(0, .i .i64 n), (4, .p 0 [] 0), (5, .p 1 [] 0), (7, .p 2 [] 0), (8, .sl 3 0 x.2.1.length 1), (9, .i .i64 (i : Int)), (10, .sl 4 0 2 1), (11, .i .i64 (x.1 : Int))], fun x => [.var (pl p), .var (pl q), .var (bl x.2.2), .row 5 x.2.1.length 1 (bytesF x.2.1), .row 5 2 1 (bytesF [p (Q.getD i 0), q (Q.getD i 0)])], fun x => 2 - x.1⟩) ((0, (Q, met))) (⟨hI, .inl ⟨rfl, rfl⟩⟩) (gC [0, 1, 2, 3, 4] (LeAll.cons (by rfl) (by first | with_reducible exact Root.Le.refl _ | with_reducible exact le_dead | (exact le_row (Nat.le_refl _) (fun j hj => by rcases j with _ | _ | j <;> first | rfl | omega)) | exact byLeq) (by exact byCon) (LeAll.cons (by rfl) (by first | with_reducible exact Root.Le.refl _ | with_reducible exact le_dead | (exact le_row (Nat.le_refl _) (fun j hj => by rcases j with _ | _ | j <;> first | rfl | omega)) | exact byLeq) (by exact byCon) (LeAll.cons (by rfl) (by first | with_reducible exact Root.Le.refl _ | with_reducible exact le_dead | (exact le_row (Nat.le_refl _) (fun j hj => by rcases j with _ | _ | j <;> first | rfl | omega)) | exact byLeq) (by exact byCon) (LeAll.cons (by rfl) (by first | with_reducible exact Root.Le.refl _ | with_reducible exact le_dead | (exact le_row (Nat.le_refl _) (fun j hj => by rcases j with _ | _ | j <;> first | rfl | omega)) | exact byLeq) (by exact byCon) (LeAll.cons (by rfl) (by first | with_reducible exact Root.Le.refl _ | with_reducible exact le_dead | (exact le_row (Nat.le_refl _) (fun j hj => by rcases j with _ | _ | j <;> first | rfl | omega)) | exact byLeq) (by exact byCon) (leZ))))))) ?_
    rintro ⟨k, R, mt⟩ ⟨hJ, hk⟩
    simp only at hJ hk
    dsimp only [Hd.at]
    refine WP.seq ?_
    refine rS ?_
    refine WP.cond (by rfl) (fun hc => WP.skip ?_) (fun hc => WP.exit ?_)
    · have hk2 : k < 2 := by have := of_decide_eq_true hc; omega
      clear hc
      refine WP.seq (WP.block ?_)
      have hy : [p (Q.getD i 0), q (Q.getD i 0)].getD k 0 < n ∧ ((k + 1 = 1 ∧ bst ([p (Q.getD i 0), q (Q.getD i 0)].getD k 0) (R, mt) = bst (p (Q.getD i 0)) (Q, met)) ∨ (k + 1 = 2 ∧ bst ([p (Q.getD i 0), q (Q.getD i 0)].getD k 0) (R, mt) = bst (q (Q.getD i 0)) (bst (p (Q.getD i 0)) (Q, met)))) := by
        rcases hk with ⟨rfl, e⟩ | ⟨rfl, e⟩ | ⟨rfl, e⟩
        · exact ⟨hpx, .inl ⟨rfl, by rw [e]; rfl⟩⟩
        · exact ⟨hqx, .inr ⟨rfl, by rw [e]; rfl⟩⟩
        · omega
      obtain ⟨hy1, hy2⟩ := hy
      have hJ1 := hJ.bst hn hy1
      have hlen : R.length ≤ 16 := by have := hJ.len; simp only at this; omega
      generalize hyy : [p (Q.getD i 0), q (Q.getD i 0)].getD k 0 = y at hy1 hy2 hJ1
      have hb : bytesF [p (Q.getD i 0), q (Q.getD i 0)] k = .i .u8 ((y : Nat) : Int) := by unfold bytesF; rw [hyy]
      have hy16 : [p (Q.getD i 0), q (Q.getD i 0)].getD k 0 < 16 := by omega
      refine rS ?_
      cases hm : mt y
      · have e1 : bst y (R, mt) = (R ++ [y], up mt y true) := bst_new hm
        refine WP.cond (by rfl) (fun h => ?_) (fun h => WP.skip ?_)
        · refine rS ?_
          refine rE ?_
          refine rE ?_
          refine Again.next ((k + 1, (R ++ [y], up mt y true))) (gC [0, 1, 2, 6, 4] (LeAll.cons (by rfl) (by first | with_reducible exact Root.Le.refl _ | with_reducible exact le_dead | (first | exact le_row (by simp) (fun j hj => (ap_bytes R y _ j (by simpa using hj)).trans (by unfold bytesF; rw [← hyy]; rfl)) | exact le_var (by rw [← hyy]; exact byVareq)) | exact byLeq) (by exact byCon) (LeAll.cons (by rfl) (by first | with_reducible exact Root.Le.refl _ | with_reducible exact le_dead | (first | exact le_row (by simp) (fun j hj => (ap_bytes R y _ j (by simpa using hj)).trans (by unfold bytesF; rw [← hyy]; rfl)) | exact le_var (by rw [← hyy]; exact byVareq)) | exact byLeq) (by exact byCon) (LeAll.cons (by rfl) (by first | with_reducible exact Root.Le.refl _ | with_reducible exact le_dead | (first | exact le_row (by simp) (fun j hj => (ap_bytes R y _ j (by simpa using hj)).trans (by unfold bytesF; rw [← hyy]; rfl)) | exact le_var (by rw [← hyy]; exact byVareq)) | exact byLeq) (by exact byCon) (LeAll.cons (by rfl) (by first | with_reducible exact Root.Le.refl _ | with_reducible exact le_dead | (first | exact le_row (by simp) (fun j hj => (ap_bytes R y _ j (by simpa using hj)).trans (by unfold bytesF; rw [← hyy]; rfl)) | exact le_var (by rw [← hyy]; exact byVareq)) | exact byLeq) (by exact byCon) (LeAll.cons (by rfl) (by first | with_reducible exact Root.Le.refl _ | with_reducible exact le_dead | (first | exact le_row (by simp) (fun j hj => (ap_bytes R y _ j (by simpa using hj)).trans (by unfold bytesF; rw [← hyy]; rfl)) | exact le_var (by rw [← hyy]; exact byVareq)) | exact byLeq) (by exact byCon) (leZ))))))) (⟨e1 ▸ hJ1, .inr (e1 ▸ hy2)⟩) (by dsimp only; omega)
        · have h2 : (!mt ([p (Q.getD i 0), q (Q.getD i 0)].getD k 0)) = _ := h; rw [hyy, hm] at h2; cases h2
      · have e1 : bst y (R, mt) = (R, mt) := bst_old hm
        refine WP.cond (by rfl) (fun h => ?_) (fun h => WP.skip ?_)
        · have h2 : (!mt ([p (Q.getD i 0), q (Q.getD i 0)].getD k 0)) = _ := h; rw [hyy, hm] at h2; cases h2
        · refine rE ?_
          refine Again.next ((k + 1, (R, mt))) (gC [0, 1, 2, 3, 4] (leC (leC (leC (leC (leC leZ)))))) (⟨hJ, .inr (e1 ▸ hy2)⟩) (by dsimp only; omega)
    · have hk : k = 2 ∧ (R, mt) = bst (q (Q.getD i 0)) (bst (p (Q.getD i 0)) (Q, met)) := by
        have := of_decide_eq_false hc
        rcases hk with ⟨rfl, _⟩ | ⟨rfl, _⟩ | h
        · simp at this
        · simp at this
        · exact h
      obtain ⟨rfl, e⟩ := hk
      have hr := bmu_round hn hp hq hI hi
      have hs := bres_step hn hp hq hI hi
      simp only at hr hs
      rw [← e] at hr hs
      have hl := bmu_bst hn (s := (Q, met)) hpx i (by simp only; omega)
      have hl2 := bmu_bst hn (s := bst (p (Q.getD i 0)) (Q, met)) hqx i (by simp only at hl ⊢; omega)
      rw [← e] at hl2
      simp only at hl hl2
      have hQl : Q.length ≤ 16 := by have := hI.len; simp only at this; omega
      refine rE ?_
      refine Again.next ((i + 1, (R, mt))) (gC [0, 1, 2, 3] (leC (leC (leC (leC leZ))))) (⟨hr.1, by simp only; omega, hs.trans hF⟩) (by exact hr.2)
  · have hi : ¬ i < Q.length := by have := of_decide_eq_false hc; omega
    have hB : bfs p q = Q := by unfold bfs; rw [← hF, bres_end hi]
    refine rS ?_
    rw [hB]
    exact WP.ret (Ends.val (by rfl) (by exact byObl) (by rfl) (by trivial))
def sel (p q : Nat → Nat) (k : Nat) : Nat → Nat := bif Nat.beq k 0 then p else q
theorem reached_fn (p q : Nat → Nat) (n : Nat) (h1 : 1 ≤ n) (hn : n ≤ 16) (hp : ∀ i, i < n → p i < n) (hq : ∀ i, i < n → q i < n) : FnR Try.prog 46 [.i .i64 n, .sl 0 0 2 16] [.ro 2 16 (fun k => pl (sel p q k))] (.i .i64 ((bfs p q).length : Int)) := by
  refine FnS.into T tok Try.func46 (by rfl) rfl rfl rfl (by simp) ?_
  refine rS ?_
  refine rS ?_
  refine rS ?_
  refine WP.seq ?_
  refine rS ?_
  refine WP.block ?_
  refine WP.loopH (⟨fun x : Nat × (List Nat × (Nat → Bool)) => BInv n x.2 ∧ x.1 ≤ x.2.1.length ∧ bres p q x.1 x.2 = bres p q 0 b0, fun x => [(1, .sl 0 0 2 16), (5, .p 1 [] 0), (6, .sl 2 0 x.2.1.length 1), (7, .i .i64 (x.1 : Int))], fun x => [.ro 2 16 (fun k => pl (sel p q k)), .var (bl x.2.2), .row 5 x.2.1.length 1 (bytesF x.2.1)], fun x => bmu x.1 x.2⟩) ((0, b0)) (⟨b0_inv h1, by decide, rfl⟩) (gC [0, 1, 2] (LeAll.cons (by rfl) (by first | with_reducible exact Root.Le.refl _ | with_reducible exact le_dead | (exact le_row (Nat.le_refl _) (fun j hj => by obtain rfl : j = 0 := (by have : j < 1 := hj; omega); rfl)) | exact byLeq) (by exact byCon) (LeAll.cons (by rfl) (by first | with_reducible exact Root.Le.refl _ | with_reducible exact le_dead | (exact le_row (Nat.le_refl _) (fun j hj => by obtain rfl : j = 0 := (by have : j < 1 := hj; omega); rfl)) | exact byLeq) (by exact byCon) (LeAll.cons (by rfl) (by first | with_reducible exact Root.Le.refl _ | with_reducible exact le_dead | (exact le_row (Nat.le_refl _) (fun j hj => by obtain rfl : j = 0 := (by have : j < 1 := hj; omega); rfl)) | exact byLeq) (by exact byCon) (leZ))))) ?_
  rintro ⟨i, Q, met⟩ ⟨hI, hle, hF⟩
  simp only at hI hle hF
  dsimp only [Hd.at]
  refine WP.seq ?_
  refine rS ?_
  refine WP.cond (by rfl) (fun hc => WP.skip ?_) (fun hc => WP.exit ?_)
  · have hi : i < Q.length := by have := of_decide_eq_true hc; omega
    clear hc
    have hx : Q.getD i 0 < n := hI.get hi
    have hpx := hp _ hx
    have hqx := hq _ hx
    have hI1 := hI.bst hn hpx
    have hI2 := hI1.bst hn hqx
    refine WP.seq (WP.block ?_)
    refine rS ?_
    refine WP.block ?_
    refine WP.loopH (⟨fun x : Nat × (List Nat × (Nat → Bool)) => BInv n x.2 ∧ i < x.2.1.length ∧ x.2.1.getD i 0 = Q.getD i 0 ∧ ((x.1 = 0 ∧ x.2 = (Q, met)) ∨ (x.1 = 1 ∧ x.2 = bst (p (Q.getD i 0)) (Q, met)) ∨ (x.1 = 2 ∧ x.2 = bst (q (Q.getD i 0)) (bst (p (Q.getD i 0)) (Q, met)))), fun x => [(1, .sl 0 0 2 16), (5, .p 1 [] 0), (6, .sl 2 0 x.2.1.length 1), (7, .i .i64 (i : Int)), (19, .sl 0 0 2 16), (20, .i .i64 2), (21, .i .i64 (x.1 : Int))], fun x => [.ro 2 16 (fun k => pl (sel p q k)), .var (bl x.2.2), .row 5 x.2.1.length 1 (bytesF x.2.1)], fun x => 2 - x.1⟩) ((0, (Q, met))) (⟨hI, hi, rfl, .inl ⟨rfl, rfl⟩⟩) (gC [0, 1, 2] (leC (leC (leC leZ)))) ?_
    rintro ⟨k, R, mt⟩ ⟨hJ, hiR, hgR, hk⟩
    simp only at hJ hk hiR hgR
    dsimp only [Hd.at]
    refine rS ?_
    refine WP.seq ?_
    refine WP.cond (by rfl) (fun hc => WP.skip ?_) (fun hc => WP.exit ?_)
    · have hk2 : k < 2 := by have := of_decide_eq_true hc; omega
      clear hc
      refine WP.seq (WP.block ?_)
      have hy : sel p q k (Q.getD i 0) < n ∧ ((k + 1 = 1 ∧ bst (sel p q k (Q.getD i 0)) (R, mt) = bst (p (Q.getD i 0)) (Q, met)) ∨ (k + 1 = 2 ∧ bst (sel p q k (Q.getD i 0)) (R, mt) = bst (q (Q.getD i 0)) (bst (p (Q.getD i 0)) (Q, met)))) := by
        rcases hk with ⟨rfl, e⟩ | ⟨rfl, e⟩ | ⟨rfl, e⟩
        · exact ⟨hpx, .inl ⟨rfl, by rw [e]; rfl⟩⟩
        · exact ⟨hqx, .inr ⟨rfl, by rw [e]; rfl⟩⟩
        · omega
      obtain ⟨hy1, hy2⟩ := hy
      have hJ1 := hJ.bst hn hy1
      have hlen : R.length ≤ 16 := by have := hJ.len; simp only at this; omega
      generalize hyy : sel p q k (Q.getD i 0) = y at hy1 hy2 hJ1
      have hyR : sel p q k (R.getD i 0) = y := by rw [hgR, hyy]
      have hx16 : R.getD i 0 < 16 := by omega
      have hy16 : sel p q k (R.getD i 0) < 16 := by omega
      refine rS ?_
      refine rS ?_
      refine rS ?_
      cases hm : mt y
      · have e1 : bst y (R, mt) = (R ++ [y], up mt y true) := bst_new hm
        refine WP.cond (by rfl) (fun h => ?_) (fun h => WP.skip ?_)
        · refine rS ?_
          refine rE ?_
          refine rE ?_
          refine Again.next ((k + 1, (R ++ [y], up mt y true))) (gC [0, 1, 5] (LeAll.cons (by rfl) (by first | with_reducible exact Root.Le.refl _ | with_reducible exact le_dead | (first | exact le_row (by simp) (fun j hj => (ap_bytes R y _ j (by simpa using hj)).trans (by unfold bytesF; rw [← hyR]; rfl)) | exact le_var (by rw [← hyR]; exact byVareq)) | exact byLeq) (by exact byCon) (LeAll.cons (by rfl) (by first | with_reducible exact Root.Le.refl _ | with_reducible exact le_dead | (first | exact le_row (by simp) (fun j hj => (ap_bytes R y _ j (by simpa using hj)).trans (by unfold bytesF; rw [← hyR]; rfl)) | exact le_var (by rw [← hyR]; exact byVareq)) | exact byLeq) (by exact byCon) (LeAll.cons (by rfl) (by first | with_reducible exact Root.Le.refl _ | with_reducible exact le_dead | (first | exact le_row (by simp) (fun j hj => (ap_bytes R y _ j (by simpa using hj)).trans (by unfold bytesF; rw [← hyR]; rfl)) | exact le_var (by rw [← hyR]; exact byVareq)) | exact byLeq) (by exact byCon) (leZ))))) (⟨e1 ▸ hJ1, by simp; omega, by rw [← hgR]; simp only [List.getD_eq_getElem?_getD]; rw [List.getElem?_append_left hiR], .inr (e1 ▸ hy2)⟩) (by dsimp only; omega)
        · have h2 : (!mt (sel p q k (R.getD i 0))) = _ := h; rw [hyR, hm] at h2; cases h2
      · have e1 : bst y (R, mt) = (R, mt) := bst_old hm
        refine WP.cond (by rfl) (fun h => ?_) (fun h => WP.skip ?_)
        · have h2 : (!mt (sel p q k (R.getD i 0))) = _ := h; rw [hyR, hm] at h2; cases h2
        · refine rE ?_
          refine Again.next ((k + 1, (R, mt))) (gC [0, 1, 2] (leC (leC (leC leZ)))) (⟨hJ, hiR, hgR, .inr (e1 ▸ hy2)⟩) (by dsimp only; omega)
    · have hk : k = 2 ∧ (R, mt) = bst (q (Q.getD i 0)) (bst (p (Q.getD i 0)) (Q, met)) := by
        have := of_decide_eq_false hc
        rcases hk with ⟨rfl, _⟩ | ⟨rfl, _⟩ | h
        · simp at this
        · simp at this
        · exact h
      obtain ⟨rfl, e⟩ := hk
      have hr := bmu_round hn hp hq hI hi
      have hs := bres_step hn hp hq hI hi
      simp only at hr hs
      rw [← e] at hr hs
      have hQl : Q.length ≤ 16 := by have := hI.len; simp only at this; omega
      refine rE ?_
      refine Again.next ((i + 1, (R, mt))) (gC [0, 1, 2] (leC (leC (leC leZ)))) (⟨hr.1, by simp only; omega, hs.trans hF⟩) (by exact hr.2)
  · have hi : ¬ i < Q.length := by have := of_decide_eq_false hc; omega
    have hB : bfs p q = Q := by unfold bfs; rw [← hF, bres_end hi]
    refine rS ?_
    rw [hB]
    exact WP.ret (Ends.val (by rfl) (by exact byObl) (by rfl) (by trivial))
noncomputable def desB (n : Int) (b w : Nat → Nat) : Bool := permB b n && (permB w n && decide (((bfs b w).length : Int) = n))
structure Des (N : Nat) (b w : Nat → Nat) : Prop where
  pos : 1 ≤ N
  le : N ≤ 16
  pb : Perm N b
  pw : Perm N w
  all : (bfs b w).length = N
theorem des_of_B {n : Int} {b w : Nat → Nat} (h : desB n b w = true) : ∃ N : Nat, n = N ∧ Des N b w := by
  unfold desB at h
  simp only [Bool.and_eq_true, decide_eq_true_eq] at h
  obtain ⟨N, rfl, h1, h2, h3⟩ := perm_of_B h.1
  obtain ⟨N', e, _, _, h3'⟩ := perm_of_B h.2.1
  have : N' = N := by omega
  subst this
  exact ⟨N', rfl, h1, h2, h3, h3', by have := h.2.2; omega⟩
theorem l01Is_fn (n : Int) (b w : Nat → Nat) (hb : ∀ i, b i < 256) (hw : ∀ i, w i < 256) : FnP Try.prog 27 [ds_ n b w] (.b (desB n b w)) := by
  refine FnS.into T tok Try.func27 (by rfl) rfl rfl rfl (by simp) ?_
  refine rS ?_
  cases h1 : permB b n
  · have e : desB n b w = false := by unfold desB; rw [h1]; rfl
    refine WP.rw ?_
    refine rU 4 ?_
    refine cA (h1 ▸ l01Perm_fn b hb n) ?_
    refine rF ?_
    rw [e]
    exact WP.ret (Ends.val (by rfl) (by exact byObl) (by rfl) (by trivial))
  cases h2 : permB w n
  · have e : desB n b w = false := by unfold desB; rw [h1, h2]; rfl
    refine WP.rw ?_
    refine rU 4 ?_
    refine cA (h1 ▸ l01Perm_fn b hb n) ?_
    refine rU 5 ?_
    refine cA (h2 ▸ l01Perm_fn w hw n) ?_
    refine rF ?_
    rw [e]
    exact WP.ret (Ends.val (by rfl) (by exact byObl) (by rfl) (by trivial))
  have e : desB n b w = decide (((bfs b w).length : Int) = n) := by unfold desB; rw [h1, h2]; rfl
  obtain ⟨N, rfl, g1, g2, hP⟩ := perm_of_B h1
  obtain ⟨N', eN, _, _, hP'⟩ := perm_of_B h2
  obtain rfl : N = N' := by omega
  refine WP.rw ?_
  refine rU 4 ?_
  refine cA (h1 ▸ l01Perm_fn b hb N) ?_
  refine rU 5 ?_
  refine cA (h2 ▸ l01Perm_fn w hw N) ?_
  refine rU 8 ?_
  refine cA (l01Connected_fn b w N g1 g2 hP.lt hP'.lt) ?_
  refine rF ?_
  rw [e]
  exact WP.ret (Ends.val (by rfl) (by exact byObl) (by rfl) (by trivial))
theorem implIsDessin_fn (n : Int) (b w : Nat → Nat) (hb : ∀ i, b i < 256) (hw : ∀ i, w i < 256) : FnP Try.prog 21 [ds_ n b w] (.b (desB n b w)) := by
  refine FnS.into T tok Try.func21 (by rfl) rfl rfl rfl (by simp) ?_
  refine rS ?_
  refine rS ?_
  cases h1 : permB b n
  · have e : desB n b w = false := by unfold desB; rw [h1]; rfl
    refine WP.rw ?_
    refine rU 3 ?_
    refine cA (h1 ▸ IsPermutation_fn b hb n) ?_
    refine rF ?_
    rw [e]
    exact WP.ret (Ends.val (by rfl) (by exact byObl) (by rfl) (by trivial))
  cases h2 : permB w n
  · have e : desB n b w = false := by unfold desB; rw [h1, h2]; rfl
    refine WP.rw ?_
    refine rU 3 ?_
    refine cA (h1 ▸ IsPermutation_fn b hb n) ?_
    refine rU 4 ?_
    refine cA (h2 ▸ IsPermutation_fn w hw n) ?_
    refine rF ?_
    rw [e]
    exact WP.ret (Ends.val (by rfl) (by exact byObl) (by rfl) (by trivial))
  have e : desB n b w = decide (((bfs b w).length : Int) = n) := by unfold desB; rw [h1, h2]; rfl
  obtain ⟨N, rfl, g1, g2, hP⟩ := perm_of_B h1
  obtain ⟨N', eN, _, _, hP'⟩ := perm_of_B h2
  obtain rfl : N = N' := by omega
  refine WP.rw ?_
  refine rU 3 ?_
  refine cA (h1 ▸ IsPermutation_fn b hb N) ?_
  refine rU 4 ?_
  refine cA (h2 ▸ IsPermutation_fn w hw N) ?_
  refine rU 8 ?_
  refine cR [1] (reached_fn b w N g1 g2 hP.lt hP'.lt) (LeAll.cons (by rfl) (by first | with_reducible exact Root.Le.refl _ | with_reducible exact le_dead | (exact le_frz (Nat.le_refl _) (fun j hj => by rcases j with _ | _ | j <;> first | rfl | omega)) | exact byLeq) (by exact byCon) (leZ)) ?_
  refine rF ?_
  rw [e]
  exact WP.ret (Ends.val (by rfl) (by exact byObl) (by rfl) (by trivial))
theorem bt_star {n : Nat} (h1 : 1 ≤ n) (hn : n ≤ 16) : Bt n (fillF (fun i => (i + 1) % n) n) := ⟨fun i => by
  show (if i < n then (i + 1) % n else 0) < n
  split
  · exact Nat.mod_lt _ (by omega)
  · omega, fun i hi => by
  show (if i < n then (i + 1) % n else 0) = 0
  rw [if_neg (by omega)]⟩
theorem Bt.b256 {n : Nat} {p : Nat → Nat} (h : Bt n p) (hn : n ≤ 256) : ∀ i, p i < 256 := fun i => Nat.lt_of_lt_of_le (h.lt i) hn
theorem l01Draw_fn (len : Nat) (g : Nat → Nat) (hg : ∀ j, g j < 256) (a : Nat) (h : Int) (most : Int) (hm1 : 1 ≤ most) (hm : most ≤ 16) (ha : a ≤ len) (hl : len ≤ 4294967296) :
    FnS Try.prog 61 [.p 0 [] 0, .i .i64 most] [.var (srcD len g a h)] fun r m' => ∃ (n : Nat) (b w : Nat → Nat) (a' : Nat) (h' : Int), r = ds_ n b w ∧ 1 ≤ n ∧ (n : Int) ≤ most ∧ Bt n b ∧ Bt n w ∧ a' ≤ len ∧ m' = [.var (srcD len g a' h')] := by
  have hSc : ∀ (k a : Nat) (h : Int), Sc k (srcD len g a h) := fun k a h => sc_src k len g a h
  have sc_ch := hSc
  have hnx := l01Next_fn len g hg a h most ha hl
  refine FnS.intoE T tok Try.func61 (by rfl) rfl rfl rfl (by simp) ?_
  refine rS ?_
  refine WP.rw ?_
  refine rU 2 ?_
  refine WPL.callE [0] (hnx) (leC leZ) (by rfl) (by rfl) (by exact byArgs) (by rfl) (by rfl) (by simp [Sc, sc_pl, sc_ds]) ?_
  rintro _ _ ⟨y, a', h2, rfl, hy1, _, ha', rfl⟩
  obtain ⟨y0, y1⟩ := hy1 hm1
  obtain ⟨n, rfl, hn1, hn2⟩ : ∃ n : Nat, y = (n : Int) - 1 ∧ 1 ≤ n ∧ (n : Int) ≤ most := ⟨(y + 1).toNat, by omega, by omega, by omega⟩
  have hn16 : n ≤ 16 := by omega
  refine ⟨⟨fun d hd => by cases hd; exact sc_src _ _ _ _ _, trivial⟩, .i .i64 ((n : Int) - 1), ⟨rfl, trivial⟩, trivial, ?_⟩
  refine WPL.mem (by rfl) ?_
  refine rU 1 ?_
  have en : (1 : Int) + ((n : Int) - 1) = n := by omega
  rw [en]
  refine rF ?_
  refine WP.seq ?_
  refine rS ?_
  refine WP.block ?_
  refine WP.loopH (⟨fun z : Nat × Nat × Int => z.1 ≤ 8 ∧ z.2.1 ≤ len, fun z => [(0, .p 0 [] 0), (4, .p 1 [] 0), (5, .i .i64 (n : Int)), (6, .i .i64 (z.1 : Int))], fun z => [.var (srcD len g z.2.1 z.2.2), .var (ds_ 0 (fun _ => 0) (fun _ => 0))], fun z => 8 - z.1⟩) ((0, a', h2)) (⟨Nat.zero_le _, ha'⟩) (gC [0, 1] (leC (leC leZ))) ?_
  rintro ⟨k, c, h3⟩ ⟨hk, hcl⟩
  dsimp only at hk hcl
  dsimp only [Hd.at]
  refine WP.seq ?_
  refine rS ?_
  refine WP.cond (by rfl) (fun hc => WP.skip ?_) (fun hc => WP.exit ?_)
  · have hk : k < 8 := by have := of_decide_eq_true hc; omega
    clear hc
    let F1 : Nat → Int := fun j => if j = 0 then 2 else if j = 1 then 3 else if j = 2 then 4 else (n : Int)
    let F2 : Nat → Int := fun j => if j = 0 then 2 else if j = 1 then 2 else if j = 2 then 3 else (n : Int)
    have hF1 : ∀ j, F1 j ≤ 1000 := fun j => by
      show (if j = 0 then (2 : Int) else if j = 1 then 3 else if j = 2 then 4 else (n : Int)) ≤ 1000
      split
      · omega
      · split
        · omega
        · split <;> omega
    have hF2 : ∀ j, F2 j ≤ 1000 := fun j => by
      show (if j = 0 then (2 : Int) else if j = 1 then 2 else if j = 2 then 3 else (n : Int)) ≤ 1000
      split
      · omega
      · split
        · omega
        · split <;> omega
    have hp1 := l01Pick_fn len g hg c h3 4 F1 (by omega) (by omega) hcl hl
    refine WP.seq (WP.block ?_)
    refine WP.rw ?_
    refine rU 6 ?_
    refine WPL.callE [0, 2] (hp1) (LeAll.cons (by rfl) (by first | with_reducible exact Root.Le.refl _ | with_reducible exact le_dead | (exact le_row (Nat.le_refl _) (fun j hj => by obtain rfl | rfl | rfl | rfl : j = 0 ∨ j = 1 ∨ j = 2 ∨ j = 3 := (by omega) <;> rfl)) | exact byLeq) (by exact byCon) (LeAll.cons (by rfl) (by first | with_reducible exact Root.Le.refl _ | with_reducible exact le_dead | (exact le_row (Nat.le_refl _) (fun j hj => by obtain rfl | rfl | rfl | rfl : j = 0 ∨ j = 1 ∨ j = 2 ∨ j = 3 := (by omega) <;> rfl)) | exact byLeq) (by exact byCon) (leZ))) (by rfl) (by rfl) (by exact byArgs) (by rfl) (by rfl) (by simp [Sc, sc_pl, sc_ds]) ?_
    rintro _ _ ⟨j1, c1, g1, rfl, hj1, hc1, rfl⟩
    refine ⟨⟨fun d hd => by cases hd; exact sc_src _ _ _ _ _, fun d hd => by cases hd; exact fun _ _ => trivial, trivial⟩, .i .i64 (F1 j1), ⟨rfl, trivial⟩, trivial, ?_⟩
    refine WPL.mem (by rfl) ?_
    have hp2 := l01Pairs_fn len g hg c1 g1 n (F1 j1) hn1 hn16 (hF1 _) hc1 hl
    refine WPL.callE [0] (hp2) (leC leZ) (by rfl) (by rfl) (by exact byArgs) (by rfl) (by rfl) (by simp [Sc, sc_pl, sc_ds]) ?_
    rintro _ _ ⟨b, c2, g2, rfl, hb, hc2, rfl⟩
    refine ⟨⟨fun d hd => by cases hd; exact sc_src _ _ _ _ _, trivial⟩, pl b, ⟨rfl, sc_pl _ _⟩, sc_pl _ _, ?_⟩
    refine WPL.mem (by rfl) ?_
    have hp3 := l01Pick_fn len g hg c2 g2 4 F2 (by omega) (by omega) hc2 hl
    refine rU 5 ?_
    refine WPL.callE [0, 3] (hp3) (LeAll.cons (by rfl) (by first | with_reducible exact Root.Le.refl _ | with_reducible exact le_dead | (exact le_row (Nat.le_refl _) (fun j hj => by obtain rfl | rfl | rfl | rfl : j = 0 ∨ j = 1 ∨ j = 2 ∨ j = 3 := (by omega) <;> rfl)) | exact byLeq) (by exact byCon) (LeAll.cons (by rfl) (by first | with_reducible exact Root.Le.refl _ | with_reducible exact le_dead | (exact le_row (Nat.le_refl _) (fun j hj => by obtain rfl | rfl | rfl | rfl : j = 0 ∨ j = 1 ∨ j = 2 ∨ j = 3 := (by omega) <;> rfl)) | exact byLeq) (by exact byCon) (leZ))) (by rfl) (by rfl) (by exact byArgs) (by rfl) (by rfl) (by simp [Sc, sc_pl, sc_ds]) ?_
    rintro _ _ ⟨j3, c3, g3, rfl, hj3, hc3, rfl⟩
    refine ⟨⟨fun d hd => by cases hd; exact sc_src _ _ _ _ _, fun d hd => by cases hd; exact fun _ _ => trivial, trivial⟩, .i .i64 (F2 j3), ⟨rfl, trivial⟩, trivial, ?_⟩
    refine WPL.mem (by rfl) ?_
    have hp4 := l01Pairs_fn len g hg c3 g3 n (F2 j3) hn1 hn16 (hF2 _) hc3 hl
    refine WPL.callE [0] (hp4) (leC leZ) (by rfl) (by rfl) (by exact byArgs) (by rfl) (by rfl) (by simp [Sc, sc_pl, sc_ds]) ?_
    rintro _ _ ⟨w, c4, g4, rfl, hw, hc4, rfl⟩
    refine ⟨⟨fun d hd => by cases hd; exact sc_src _ _ _ _ _, trivial⟩, pl w, ⟨rfl, sc_pl _ _⟩, sc_pl _ _, ?_⟩
    refine WPL.mem (by rfl) ?_
    refine rF ?_
    refine WP.ghost (gC [0, 1, 4] (leC (leC (leC leZ))) (l := [(0, .p 0 [] 0), (4, .p 1 [] 0), (5, .i .i64 (n : Int)), (6, .i .i64 (k : Int)), (7, .p 2 [] 0)]) (m' := [.var (srcD len g c4 g4), .var (ds_ 0 (fun _ => 0) (fun _ => 0)), .var (ds_ n b w)])) ?_
    have his := l01Is_fn n b w (hb.b256 (by omega)) (hw.b256 (by omega))
    refine WP.rw ?_
    refine rU 1 ?_
    refine cA (his) ?_
    refine rF ?_
    refine WP.cond (by rfl) (fun hx => ?_) (fun hx => ?_)
    · refine rS ?_
      exact WP.ret (Ends.newE [0] (⟨n, b, w, c4, g4, rfl, hn1, hn2, hb, hw, hc4, rfl⟩) (.inl rfl) (by rfl) (by exact byObl) (leC leZ) rfl rfl (⟨rfl, sc_ds _ _ _ _⟩) (sc_ds _ _ _ _))
    · refine WP.skip ?_
      refine rE ?_
      refine Again.next ((k + 1, c4, g4)) (gC [0, 1] (leC (leC leZ))) (⟨by omega, hc4⟩) (by dsimp only; omega)
  clear hc
  refine WP.rw ?_
  refine rU 1 ?_
  refine cA (l01Star_fn n hn1 hn16) ?_
  refine rF ?_
  have hdp := l01DrawPlaces_fn len g hg c h3 (n : Int) (by omega) (by omega) hcl hl
  refine WP.rw ?_
  refine rU 2 ?_
  refine WPL.callE [0] (hdp) (leC leZ) (by rfl) (by rfl) (by exact byArgs) (by rfl) (by rfl) (by simp [Sc, sc_pl, sc_ds]) ?_
  rintro _ _ ⟨w, c', h4, rfl, hw, hc', rfl⟩
  rw [bN_nat hn1] at hw
  refine ⟨⟨fun d hd => by cases hd; exact sc_src _ _ _ _ _, trivial⟩, pl w, ⟨rfl, sc_pl _ _⟩, sc_pl _ _, ?_⟩
  refine WPL.mem (by rfl) ?_
  refine rF ?_
  refine WP.ghost (gC [0, 1, 2] (leC (leC (leC leZ))) (l := [(0, .p 0 [] 0), (4, .p 1 [] 0), (8, .p 2 [] 0)]) (m' := [.var (srcD len g c' h4), .var (ds_ 0 (fun _ => 0) (fun _ => 0)), .var (ds_ n (fillF (fun i => (i + 1) % n) n) w)])) ?_
  refine rS ?_
  exact WP.ret (Ends.newE [0] (⟨n, _, w, c', h4, rfl, hn1, hn2, bt_star hn1 hn16, hw, hc', rfl⟩) (.inl rfl) (by rfl) (by exact byObl) (leC leZ) rfl rfl (⟨rfl, sc_ds _ _ _ _⟩) (sc_ds _ _ _ _))
end Go.Proofs.Ythjnmlpibafbnaa

namespace Go.Proofs.Ythjnmlpibafbnaa
open Go.RowKit DM
def numsF (l : List Nat) (j : Nat) : Dat := .i .i64 ((l.getD j 0 : Nat) : Int)
def owN (l : List Nat) : Dat := .ow 2 l.length 1 (numsF l)
def rowsF (L : List (List Nat)) (i : Nat) : Dat := owN (L.getD i [])
theorem getD_snoc_lt {α : Type} (l : List α) (y d : α) {j : Nat} (h : j < l.length) : (l ++ [y]).getD j d = l.getD j d := by
  simp only [List.getD_eq_getElem?_getD]; rw [List.getElem?_append_left h]
theorem getD_snoc {α : Type} (l : List α) (y d : α) : (l ++ [y]).getD l.length d = y := by
  simp [List.getD_eq_getElem?_getD]
theorem blt_true {a b : Nat} (h : a < b) : Nat.blt a b = true := by rw [Nat.blt_eq]; exact h
theorem blt_false {a b : Nat} (h : ¬ a < b) : Nat.blt a b = false := by cases e : Nat.blt a b with | false => rfl | true => rw [Nat.blt_eq] at e; exact absurd e h
theorem ap_nums (l : List Nat) (y : Nat) (z : Dat) (j : Nat) (hj : j < l.length + 1) : numsF (l ++ [y]) j = apF l.length (numsF l) 0 (fup (fun _ => z) 0 (.i .i64 ((y : Nat) : Int))) j := by
  unfold apF numsF
  by_cases h : j < l.length
  · rw [blt_true h, getD_snoc_lt l y 0 h]; rfl
  · have e : j = l.length := by omega
    subst e
    rw [blt_false (Nat.lt_irrefl _), getD_snoc]
    simp [fup]
theorem ap_rows (L : List (List Nat)) (l : List Nat) (g : Nat → Dat) (j : Nat) (hj : j < L.length + 1) : rowsF (L ++ [l]) j = fup (apF L.length (rowsF L) 0 g) L.length (owN l) j := by
  unfold apF rowsF
  by_cases h : j < L.length
  · rw [fup_ne _ _ (by omega), blt_true h, getD_snoc_lt L l [] h]; rfl
  · have e : j = L.length := by omega
    subst e
    rw [fup_same, getD_snoc]
def cyRun (p : Nat → Nat) : Nat → Nat → List Nat → (Nat → Bool) → List Nat × (Nat → Bool)
  | 0, _, l, met => (l, met)
  | f + 1, k, l, met => bif met k then (l, met) else cyRun p f (p k) (l ++ [k]) (up met k true)
def cyc (p : Nat → Nat) (k : Nat) (l : List Nat) (met : Nat → Bool) : List Nat × (Nat → Bool) := cyRun p (cntU 16 met) k l met
theorem cyc_old {p : Nat → Nat} {k : Nat} {l : List Nat} {met : Nat → Bool} (h : met k = true) : cyc p k l met = (l, met) := by
  unfold cyc
  cases cntU 16 met with
  | zero => rfl
  | succ n => simp only [cyRun, h, cond_true]
theorem cyc_new {p : Nat → Nat} {k : Nat} {l : List Nat} {met : Nat → Bool} (hk : k < 16) (h : met k = false) : cyc p k l met = cyc p (p k) (l ++ [k]) (up met k true) := by
  unfold cyc
  rw [cntU_up hk h]
  simp only [cyRun, h, cond_false]
theorem cyRun_mono (p : Nat → Nat) : ∀ (f k : Nat) (l : List Nat) (met : Nat → Bool), l.length ≤ (cyRun p f k l met).1.length
  | 0, k, l, met => Nat.le_refl _
  | f + 1, k, l, met => by
    simp only [cyRun]
    cases met k
    · have := cyRun_mono p f (p k) (l ++ [k]) (up met k true)
      simp only [List.length_append, List.length_singleton] at this
      simp only [cond_false]; omega
    · simp
theorem cyc_pos {p : Nat → Nat} {k : Nat} {met : Nat → Bool} (hk : k < 16) (h : met k = false) : 1 ≤ (cyc p k [] met).1.length := by
  rw [cyc_new hk h]
  have := cyRun_mono p (cntU 16 (up met k true)) (p k) ([] ++ [k]) (up met k true)
  exact this
structure CInv (n : Nat) (k : Nat) (l : List Nat) (met : Nat → Bool) : Prop where
  small : ∀ x ∈ l, x < n
  here : k < n
  len : l.length + cntU 16 met ≤ 16
theorem CInv.step {n : Nat} (hn : n ≤ 16) {p : Nat → Nat} (hp : ∀ i, i < n → p i < n) {k : Nat} {l : List Nat} {met : Nat → Bool} (h : CInv n k l met) (hm : met k = false) : CInv n (p k) (l ++ [k]) (up met k true) := by
  have hc := cntU_up (met := met) (y := k) (by have := h.here; omega) hm
  refine ⟨fun x hx => ?_, hp _ h.here, ?_⟩
  · simp only [List.mem_append, List.mem_singleton] at hx
    rcases hx with hx | rfl
    · exact h.small x hx
    · exact h.here
  · have := h.len
    simp only [List.length_append, List.length_singleton]; omega
theorem cntU_le : ∀ (n : Nat) (f : Nat → Bool), cntU n f ≤ n
  | 0, _ => Nat.le_refl _
  | n + 1, f => by
    have := cntU_le n f
    simp only [cntU]
    cases f n <;> simp <;> omega
def cyTo (p : Nat → Nat) : Nat → List (List Nat) × (Nat → Bool)
  | 0 => ([], fun _ => false)
  | i + 1 => bif (cyTo p i).2 i then cyTo p i else ((cyTo p i).1 ++ [(cyc p i [] (cyTo p i).2).1], (cyc p i [] (cyTo p i).2).2)
def cycs (p : Nat → Nat) (n : Nat) : List (List Nat) := (cyTo p n).1
theorem cyTo_len (p : Nat → Nat) : ∀ i, (cyTo p i).1.length ≤ i
  | 0 => Nat.le_refl _
  | i + 1 => by
    have := cyTo_len p i
    simp only [cyTo]
    cases (cyTo p i).2 i
    · simp only [cond_false, List.length_append, List.length_singleton]; omega
    · simp only [cond_true]; omega
theorem cyTo_old {p : Nat → Nat} {i : Nat} (h : (cyTo p i).2 i = true) : cyTo p (i + 1) = cyTo p i := by
  show (bif (cyTo p i).2 i then _ else _) = _
  rw [h]; rfl
theorem cyTo_new {p : Nat → Nat} {i : Nat} (h : (cyTo p i).2 i = false) : cyTo p (i + 1) = ((cyTo p i).1 ++ [(cyc p i [] (cyTo p i).2).1], (cyc p i [] (cyTo p i).2).2) := by
  show (bif (cyTo p i).2 i then _ else _) = _
  rw [h]; rfl
theorem cyRun_ok {n : Nat} (hn : n ≤ 16) {p : Nat → Nat} (hp : ∀ i, i < n → p i < n) : ∀ (f k : Nat) (l : List Nat) (met : Nat → Bool), CInv n k l met → (∀ x ∈ (cyRun p f k l met).1, x < n) ∧ (cyRun p f k l met).1.length + cntU 16 (cyRun p f k l met).2 ≤ 16
  | 0, k, l, met, h => ⟨h.small, h.len⟩
  | f + 1, k, l, met, h => by
    simp only [cyRun]
    cases hm : met k
    · simp only [cond_false]; exact cyRun_ok hn hp f _ _ _ (h.step hn hp hm)
    · simp only [cond_true]; exact ⟨h.small, h.len⟩
theorem cyTo_ok {n : Nat} (hn : n ≤ 16) {p : Nat → Nat} (hp : ∀ i, i < n → p i < n) : ∀ i, i ≤ n → ∀ l ∈ (cyTo p i).1, (∀ x ∈ l, x < n) ∧ l.length ≤ 16
  | 0, _, l, hl => by simp [cyTo] at hl
  | i + 1, hi, l, hl => by
    cases hm : (cyTo p i).2 i
    · rw [cyTo_new hm] at hl
      simp only [List.mem_append, List.mem_singleton] at hl
      rcases hl with hl | rfl
      · exact cyTo_ok hn hp i (by omega) l hl
      · have := cyRun_ok hn hp (cntU 16 (cyTo p i).2) i [] (cyTo p i).2 ⟨by simp, by omega, by have := cntU_le 16 (cyTo p i).2; simpa using this⟩
        exact ⟨this.1, by have := this.2; unfold cyc; omega⟩
    · rw [cyTo_old hm] at hl
      exact cyTo_ok hn hp i (by omega) l hl
theorem cycs_ok {n : Nat} (hn : n ≤ 16) {p : Nat → Nat} (hp : ∀ i, i < n → p i < n) {j : Nat} : ((cycs p n).getD j []).length ≤ 16 ∧ ∀ x ∈ (cycs p n).getD j [], x < n := by
  by_cases h : j < (cycs p n).length
  · have := cyTo_ok hn hp n (Nat.le_refl _) ((cycs p n).getD j []) (by rw [List.getD_eq_getElem?_getD, List.getElem?_eq_getElem h]; exact List.getElem_mem h)
    exact ⟨this.2, this.1⟩
  · rw [List.getD_eq_getElem?_getD, List.getElem?_eq_none (by omega)]; simp
theorem ren_t2 {τ : Nat → Nat} {a b a' b' : Dat} (h1 : renD τ a a') (h2 : renD τ b b') : renD τ (t2 a b) (t2 a' b') :=
  ⟨_, rfl, fun i _ => by cases i with | zero => exact h1 | succ i => exact h2⟩
end Go.Proofs.Ythjnmlpibafbnaa
