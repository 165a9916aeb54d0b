import Derived.Test.YtakapfgjdhliaaaX3
import Derived.Test.YtakapfgjdhliaaaL2
/- Connected: both sides. -/
namespace Go.Proofs.Ytakapfgjdhliaaa
open Go.RowKit DM
set_option linter.unusedSimpArgs false
set_option linter.unusedVariables false
set_option maxRecDepth 100000
set_option maxHeartbeats 1000000

theorem l01Connected_fn (p q : Nat → Nat) (n : Nat) (h1 : 1 ≤ n) (hn : n ≤ 16) (hp : ∀ i, i < n → p i < n) (hq : ∀ i, i < n → q i < n) : FnP Try.prog 85 [.i .i64 n, pl p, pl q] (.b (decide (((bfs p q).length : Int) = n))) := by
  refine FnS.into T tok Try.func85 (by rfl) rfl rfl rfl (by simp) ?_
  refine WP.rs T false tok (by rfl) (by exact byObl) ?_
  refine WP.rs T false tok (by rfl) (by exact byObl) ?_
  refine WP.rs T false tok (by rfl) (by exact byObl) ?_
  refine WP.seq ?_
  refine WP.rs T false tok (by rfl) (by exact byObl) ?_
  refine WP.block ?_
  refine WP.loopH (⟨fun x : Nat × (List Nat × (Nat → Bool)) => BInv n x.2 ∧ x.1 ≤ x.2.1.length ∧ bres p q x.1 x.2 = bres p q 0 b0, fun x => [(0, .i .i64 n), (4, .p 0 [] 0), (5, .p 1 [] 0), (7, .p 2 [] 0), (8, .sl 3 0 x.2.1.length 1), (9, .i .i64 (x.1 : Int))], fun x => [.var (pl p), .var (pl q), .var (bl x.2.2), .row 5 x.2.1.length 1 (bytesF x.2.1)], fun x => bmu x.1 x.2⟩) ((0, b0)) (⟨b0_inv h1, by decide, rfl⟩) (Ghost.cut (Nat.le_refl _) (tauOf [0, 1, 3, 2]) _ _ (Taken.of [0, 1, 3, 2] (LeAll.cons (by rfl) (by first | with_reducible exact Root.Le.refl _ | with_reducible exact le_dead | (exact le_row (Nat.le_refl _) (fun j hj => by obtain rfl : j = 0 := (by have : j < 1 := hj; omega); rfl)) | exact byLeq) (by exact byCon) (LeAll.cons (by rfl) (by first | with_reducible exact Root.Le.refl _ | with_reducible exact le_dead | (exact le_row (Nat.le_refl _) (fun j hj => by obtain rfl : j = 0 := (by have : j < 1 := hj; omega); rfl)) | exact byLeq) (by exact byCon) (LeAll.cons (by rfl) (by first | with_reducible exact Root.Le.refl _ | with_reducible exact le_dead | (exact le_row (Nat.le_refl _) (fun j hj => by obtain rfl : j = 0 := (by have : j < 1 := hj; omega); rfl)) | exact byLeq) (by exact byCon) (LeAll.cons (by rfl) (by first | with_reducible exact Root.Le.refl _ | with_reducible exact le_dead | (exact le_row (Nat.le_refl _) (fun j hj => by obtain rfl : j = 0 := (by have : j < 1 := hj; omega); rfl)) | exact byLeq) (by exact byCon) (trivial))))) rfl rfl) (by exact bySlots)) ?_
  rintro ⟨i, Q, met⟩ ⟨hI, hle, hF⟩
  simp only at hI hle hF
  dsimp only [Hd.at]
  refine WP.seq ?_
  refine WP.rs T false tok (by rfl) (by exact byObl) ?_
  refine WP.cond (by rfl) (fun hc => WP.skip ?_) (fun hc => WP.exit ?_)
  · have hi : i < Q.length := by have := of_decide_eq_true hc; omega
    clear hc
    have hx : Q.getD i 0 < n := hI.get hi
    have hpx := hp _ hx
    have hqx := hq _ hx
    have hI1 := hI.bst hn hpx
    have hI2 := hI1.bst hn hqx
    refine WP.seq (WP.block ?_)
    refine WP.seq ?_
    refine WP.dt (T := T) 12 0 ?_
    refine HW.run false 12 tok (by rfl) (by exact byObl) ?_
    refine HW.fin tok (by kernel_rfl) 12 0 (by rfl) (by kernel_rfl) (by kernel_rfl) (by kernel_rfl) (by rfl) (by rfl) rfl rfl ?_
    refine WPL.fin T false tok (by rfl) (by exact byObl) ?_
    refine WP.rs T false tok (by rfl) (by exact byObl) ?_
    refine WP.block ?_
    refine WP.loopH (⟨fun x : Nat × (List Nat × (Nat → Bool)) => BInv n x.2 ∧ ((x.1 = 0 ∧ x.2 = (Q, met)) ∨ (x.1 = 1 ∧ x.2 = bst (p (Q.getD i 0)) (Q, met)) ∨ (x.1 = 2 ∧ x.2 = bst (q (Q.getD i 0)) (bst (p (Q.getD i 0)) (Q, met)))), fun x => [(0, .i .i64 n), (4, .p 0 [] 0), (5, .p 1 [] 0), (7, .p 2 [] 0), (8, .sl 3 0 x.2.1.length 1), (9, .i .i64 (i : Int)), (10, .sl 4 0 2 1), (11, .i .i64 (x.1 : Int))], fun x => [.var (pl p), .var (pl q), .var (bl x.2.2), .row 5 x.2.1.length 1 (bytesF x.2.1), .row 5 2 1 (bytesF [p (Q.getD i 0), q (Q.getD i 0)])], fun x => 2 - x.1⟩) ((0, (Q, met))) (⟨hI, .inl ⟨rfl, rfl⟩⟩) (Ghost.cut (Nat.le_refl _) (tauOf [0, 1, 2, 3, 4]) _ _ (Taken.of [0, 1, 2, 3, 4] (LeAll.cons (by rfl) (by first | with_reducible exact Root.Le.refl _ | with_reducible exact le_dead | (exact le_row (Nat.le_refl _) (fun j hj => by rcases j with _ | _ | j <;> first | rfl | omega)) | exact byLeq) (by exact byCon) (LeAll.cons (by rfl) (by first | with_reducible exact Root.Le.refl _ | with_reducible exact le_dead | (exact le_row (Nat.le_refl _) (fun j hj => by rcases j with _ | _ | j <;> first | rfl | omega)) | exact byLeq) (by exact byCon) (LeAll.cons (by rfl) (by first | with_reducible exact Root.Le.refl _ | with_reducible exact le_dead | (exact le_row (Nat.le_refl _) (fun j hj => by rcases j with _ | _ | j <;> first | rfl | omega)) | exact byLeq) (by exact byCon) (LeAll.cons (by rfl) (by first | with_reducible exact Root.Le.refl _ | with_reducible exact le_dead | (exact le_row (Nat.le_refl _) (fun j hj => by rcases j with _ | _ | j <;> first | rfl | omega)) | exact byLeq) (by exact byCon) (LeAll.cons (by rfl) (by first | with_reducible exact Root.Le.refl _ | with_reducible exact le_dead | (exact le_row (Nat.le_refl _) (fun j hj => by rcases j with _ | _ | j <;> first | rfl | omega)) | exact byLeq) (by exact byCon) (trivial)))))) rfl rfl) (by exact bySlots)) ?_
    rintro ⟨k, R, mt⟩ ⟨hJ, hk⟩
    simp only at hJ hk
    dsimp only [Hd.at]
    refine WP.seq ?_
    refine WP.rs T false tok (by rfl) (by exact byObl) ?_
    refine WP.cond (by rfl) (fun hc => WP.skip ?_) (fun hc => WP.exit ?_)
    · have hk2 : k < 2 := by have := of_decide_eq_true hc; omega
      clear hc
      refine WP.seq (WP.block ?_)
      have hy : [p (Q.getD i 0), q (Q.getD i 0)].getD k 0 < n ∧ ((k + 1 = 1 ∧ bst ([p (Q.getD i 0), q (Q.getD i 0)].getD k 0) (R, mt) = bst (p (Q.getD i 0)) (Q, met)) ∨ (k + 1 = 2 ∧ bst ([p (Q.getD i 0), q (Q.getD i 0)].getD k 0) (R, mt) = bst (q (Q.getD i 0)) (bst (p (Q.getD i 0)) (Q, met)))) := by
        rcases hk with ⟨rfl, e⟩ | ⟨rfl, e⟩ | ⟨rfl, e⟩
        · exact ⟨hpx, .inl ⟨rfl, by rw [e]; rfl⟩⟩
        · exact ⟨hqx, .inr ⟨rfl, by rw [e]; rfl⟩⟩
        · omega
      obtain ⟨hy1, hy2⟩ := hy
      have hJ1 := hJ.bst hn hy1
      have hlen : R.length ≤ 16 := by have := hJ.len; simp only at this; omega
      generalize hyy : [p (Q.getD i 0), q (Q.getD i 0)].getD k 0 = y at hy1 hy2 hJ1
      have hb : bytesF [p (Q.getD i 0), q (Q.getD i 0)] k = .i .u8 ((y : Nat) : Int) := by unfold bytesF; rw [hyy]
      have hy16 : [p (Q.getD i 0), q (Q.getD i 0)].getD k 0 < 16 := by omega
      refine WP.rs T false tok (by rfl) (by exact byObl) ?_
      cases hm : mt y
      · have e1 : bst y (R, mt) = (R ++ [y], up mt y true) := bst_new hm
        refine WP.cond (by rfl) (fun h => ?_) (fun h => WP.skip ?_)
        · refine WP.rs T false tok (by rfl) (by exact byObl) ?_
          refine WP.run T false tok (by rfl) (by exact byObl) ?_
          refine WP.run T false tok (by rfl) (by exact byObl) ?_
          refine Again.next ((k + 1, (R ++ [y], up mt y true))) (Ghost.cut (Nat.le_refl _) (tauOf [0, 1, 2, 6, 4]) _ _ (Taken.of [0, 1, 2, 6, 4] (LeAll.cons (by rfl) (by first | with_reducible exact Root.Le.refl _ | with_reducible exact le_dead | (first | exact le_row (by simp) (fun j hj => (ap_bytes R y _ j (by simpa using hj)).trans (by unfold bytesF; rw [← hyy]; rfl)) | exact le_var (by rw [← hyy]; exact byVareq)) | exact byLeq) (by exact byCon) (LeAll.cons (by rfl) (by first | with_reducible exact Root.Le.refl _ | with_reducible exact le_dead | (first | exact le_row (by simp) (fun j hj => (ap_bytes R y _ j (by simpa using hj)).trans (by unfold bytesF; rw [← hyy]; rfl)) | exact le_var (by rw [← hyy]; exact byVareq)) | exact byLeq) (by exact byCon) (LeAll.cons (by rfl) (by first | with_reducible exact Root.Le.refl _ | with_reducible exact le_dead | (first | exact le_row (by simp) (fun j hj => (ap_bytes R y _ j (by simpa using hj)).trans (by unfold bytesF; rw [← hyy]; rfl)) | exact le_var (by rw [← hyy]; exact byVareq)) | exact byLeq) (by exact byCon) (LeAll.cons (by rfl) (by first | with_reducible exact Root.Le.refl _ | with_reducible exact le_dead | (first | exact le_row (by simp) (fun j hj => (ap_bytes R y _ j (by simpa using hj)).trans (by unfold bytesF; rw [← hyy]; rfl)) | exact le_var (by rw [← hyy]; exact byVareq)) | exact byLeq) (by exact byCon) (LeAll.cons (by rfl) (by first | with_reducible exact Root.Le.refl _ | with_reducible exact le_dead | (first | exact le_row (by simp) (fun j hj => (ap_bytes R y _ j (by simpa using hj)).trans (by unfold bytesF; rw [← hyy]; rfl)) | exact le_var (by rw [← hyy]; exact byVareq)) | exact byLeq) (by exact byCon) (trivial)))))) rfl rfl) (by exact bySlots)) (⟨e1 ▸ hJ1, .inr (e1 ▸ hy2)⟩) (by dsimp only; omega)
        · have h2 : (!mt ([p (Q.getD i 0), q (Q.getD i 0)].getD k 0)) = _ := h; rw [hyy, hm] at h2; cases h2
      · have e1 : bst y (R, mt) = (R, mt) := bst_old hm
        refine WP.cond (by rfl) (fun h => ?_) (fun h => WP.skip ?_)
        · have h2 : (!mt ([p (Q.getD i 0), q (Q.getD i 0)].getD k 0)) = _ := h; rw [hyy, hm] at h2; cases h2
        · refine WP.run T false tok (by rfl) (by exact byObl) ?_
          refine Again.next ((k + 1, (R, mt))) (Ghost.cut (Nat.le_refl _) (tauOf [0, 1, 2, 3, 4]) _ _ (Taken.of [0, 1, 2, 3, 4] (LeAll.cons (by rfl) (by first | with_reducible exact Root.Le.refl _ | with_reducible exact le_dead | (skip; done) | exact byLeq) (by exact byCon) (LeAll.cons (by rfl) (by first | with_reducible exact Root.Le.refl _ | with_reducible exact le_dead | (skip; done) | exact byLeq) (by exact byCon) (LeAll.cons (by rfl) (by first | with_reducible exact Root.Le.refl _ | with_reducible exact le_dead | (skip; done) | exact byLeq) (by exact byCon) (LeAll.cons (by rfl) (by first | with_reducible exact Root.Le.refl _ | with_reducible exact le_dead | (skip; done) | exact byLeq) (by exact byCon) (LeAll.cons (by rfl) (by first | with_reducible exact Root.Le.refl _ | with_reducible exact le_dead | (skip; done) | exact byLeq) (by exact byCon) (trivial)))))) rfl rfl) (by exact bySlots)) (⟨hJ, .inr (e1 ▸ hy2)⟩) (by dsimp only; omega)
    · have hk : k = 2 ∧ (R, mt) = bst (q (Q.getD i 0)) (bst (p (Q.getD i 0)) (Q, met)) := by
        have := of_decide_eq_false hc
        rcases hk with ⟨rfl, _⟩ | ⟨rfl, _⟩ | h
        · simp at this
        · simp at this
        · exact h
      obtain ⟨rfl, e⟩ := hk
      have hr := bmu_round hn hp hq hI hi
      have hs := bres_step hn hp hq hI hi
      simp only at hr hs
      rw [← e] at hr hs
      have hl := bmu_bst hn (s := (Q, met)) hpx i (by simp only; omega)
      have hl2 := bmu_bst hn (s := bst (p (Q.getD i 0)) (Q, met)) hqx i (by simp only at hl ⊢; omega)
      rw [← e] at hl2
      simp only at hl hl2
      have hQl : Q.length ≤ 16 := by have := hI.len; simp only at this; omega
      refine WP.run T false tok (by rfl) (by exact byObl) ?_
      refine Again.next ((i + 1, (R, mt))) (Ghost.cut (Nat.le_refl _) (tauOf [0, 1, 2, 3]) _ _ (Taken.of [0, 1, 2, 3] (LeAll.cons (by rfl) (by first | with_reducible exact Root.Le.refl _ | with_reducible exact le_dead | (skip; done) | exact byLeq) (by exact byCon) (LeAll.cons (by rfl) (by first | with_reducible exact Root.Le.refl _ | with_reducible exact le_dead | (skip; done) | exact byLeq) (by exact byCon) (LeAll.cons (by rfl) (by first | with_reducible exact Root.Le.refl _ | with_reducible exact le_dead | (skip; done) | exact byLeq) (by exact byCon) (LeAll.cons (by rfl) (by first | with_reducible exact Root.Le.refl _ | with_reducible exact le_dead | (skip; done) | exact byLeq) (by exact byCon) (trivial))))) rfl rfl) (by exact bySlots)) (⟨hr.1, by simp only; omega, hs.trans hF⟩) (by exact hr.2)
  · have hi : ¬ i < Q.length := by have := of_decide_eq_false hc; omega
    have hB : bfs p q = Q := by unfold bfs; rw [← hF, bres_end hi]
    refine WP.rs T false tok (by rfl) (by exact byObl) ?_
    rw [hB]
    exact WP.ret (Ends.val (by rfl) (by exact byObl) (by rfl) (by trivial))

/-- The one or the other. -/
def sel (p q : Nat → Nat) (k : Nat) : Nat → Nat := bif Nat.beq k 0 then p else q

theorem reached_fn (p q : Nat → Nat) (n : Nat) (h1 : 1 ≤ n) (hn : n ≤ 16) (hp : ∀ i, i < n → p i < n) (hq : ∀ i, i < n → q i < n) : FnR Try.prog 80 [.i .i64 n, .sl 0 0 2 16] [.ro 2 16 (fun k => pl (sel p q k))] (.i .i64 ((bfs p q).length : Int)) := by
  refine FnS.into T tok Try.func80 (by rfl) rfl rfl rfl (by simp) ?_
  refine WP.rs T false tok (by rfl) (by exact byObl) ?_
  refine WP.rs T false tok (by rfl) (by exact byObl) ?_
  refine WP.rs T false tok (by rfl) (by exact byObl) ?_
  refine WP.seq ?_
  refine WP.rs T false tok (by rfl) (by exact byObl) ?_
  refine WP.block ?_
  refine WP.loopH (⟨fun x : Nat × (List Nat × (Nat → Bool)) => BInv n x.2 ∧ x.1 ≤ x.2.1.length ∧ bres p q x.1 x.2 = bres p q 0 b0, fun x => [(1, .sl 0 0 2 16), (5, .p 1 [] 0), (6, .sl 2 0 x.2.1.length 1), (7, .i .i64 (x.1 : Int))], fun x => [.ro 2 16 (fun k => pl (sel p q k)), .var (bl x.2.2), .row 5 x.2.1.length 1 (bytesF x.2.1)], fun x => bmu x.1 x.2⟩) ((0, b0)) (⟨b0_inv h1, by decide, rfl⟩) (Ghost.cut (Nat.le_refl _) (tauOf [0, 1, 2]) _ _ (Taken.of [0, 1, 2] (LeAll.cons (by rfl) (by first | with_reducible exact Root.Le.refl _ | with_reducible exact le_dead | (exact le_row (Nat.le_refl _) (fun j hj => by obtain rfl : j = 0 := (by have : j < 1 := hj; omega); rfl)) | exact byLeq) (by exact byCon) (LeAll.cons (by rfl) (by first | with_reducible exact Root.Le.refl _ | with_reducible exact le_dead | (exact le_row (Nat.le_refl _) (fun j hj => by obtain rfl : j = 0 := (by have : j < 1 := hj; omega); rfl)) | exact byLeq) (by exact byCon) (LeAll.cons (by rfl) (by first | with_reducible exact Root.Le.refl _ | with_reducible exact le_dead | (exact le_row (Nat.le_refl _) (fun j hj => by obtain rfl : j = 0 := (by have : j < 1 := hj; omega); rfl)) | exact byLeq) (by exact byCon) (trivial)))) rfl rfl) (by exact bySlots)) ?_
  rintro ⟨i, Q, met⟩ ⟨hI, hle, hF⟩
  simp only at hI hle hF
  dsimp only [Hd.at]
  refine WP.seq ?_
  refine WP.rs T false tok (by rfl) (by exact byObl) ?_
  refine WP.cond (by rfl) (fun hc => WP.skip ?_) (fun hc => WP.exit ?_)
  · have hi : i < Q.length := by have := of_decide_eq_true hc; omega
    clear hc
    have hx : Q.getD i 0 < n := hI.get hi
    have hpx := hp _ hx
    have hqx := hq _ hx
    have hI1 := hI.bst hn hpx
    have hI2 := hI1.bst hn hqx
    refine WP.seq (WP.block ?_)
    refine WP.rs T false tok (by rfl) (by exact byObl) ?_
    refine WP.block ?_
    refine WP.loopH (⟨fun x : Nat × (List Nat × (Nat → Bool)) => BInv n x.2 ∧ i < x.2.1.length ∧ x.2.1.getD i 0 = Q.getD i 0 ∧ ((x.1 = 0 ∧ x.2 = (Q, met)) ∨ (x.1 = 1 ∧ x.2 = bst (p (Q.getD i 0)) (Q, met)) ∨ (x.1 = 2 ∧ x.2 = bst (q (Q.getD i 0)) (bst (p (Q.getD i 0)) (Q, met)))), fun x => [(1, .sl 0 0 2 16), (5, .p 1 [] 0), (6, .sl 2 0 x.2.1.length 1), (7, .i .i64 (i : Int)), (19, .sl 0 0 2 16), (20, .i .i64 2), (21, .i .i64 (x.1 : Int))], fun x => [.ro 2 16 (fun k => pl (sel p q k)), .var (bl x.2.2), .row 5 x.2.1.length 1 (bytesF x.2.1)], fun x => 2 - x.1⟩) ((0, (Q, met))) (⟨hI, hi, rfl, .inl ⟨rfl, rfl⟩⟩) (Ghost.cut (Nat.le_refl _) (tauOf [0, 1, 2]) _ _ (Taken.of [0, 1, 2] (LeAll.cons (by rfl) (by first | with_reducible exact Root.Le.refl _ | with_reducible exact le_dead | (skip; done) | exact byLeq) (by exact byCon) (LeAll.cons (by rfl) (by first | with_reducible exact Root.Le.refl _ | with_reducible exact le_dead | (skip; done) | exact byLeq) (by exact byCon) (LeAll.cons (by rfl) (by first | with_reducible exact Root.Le.refl _ | with_reducible exact le_dead | (skip; done) | exact byLeq) (by exact byCon) (trivial)))) rfl rfl) (by exact bySlots)) ?_
    rintro ⟨k, R, mt⟩ ⟨hJ, hiR, hgR, hk⟩
    simp only at hJ hk hiR hgR
    dsimp only [Hd.at]
    refine WP.rs T false tok (by rfl) (by exact byObl) ?_
    refine WP.seq ?_
    refine WP.cond (by rfl) (fun hc => WP.skip ?_) (fun hc => WP.exit ?_)
    · have hk2 : k < 2 := by have := of_decide_eq_true hc; omega
      clear hc
      refine WP.seq (WP.block ?_)
      have hy : sel p q k (Q.getD i 0) < n ∧ ((k + 1 = 1 ∧ bst (sel p q k (Q.getD i 0)) (R, mt) = bst (p (Q.getD i 0)) (Q, met)) ∨ (k + 1 = 2 ∧ bst (sel p q k (Q.getD i 0)) (R, mt) = bst (q (Q.getD i 0)) (bst (p (Q.getD i 0)) (Q, met)))) := by
        rcases hk with ⟨rfl, e⟩ | ⟨rfl, e⟩ | ⟨rfl, e⟩
        · exact ⟨hpx, .inl ⟨rfl, by rw [e]; rfl⟩⟩
        · exact ⟨hqx, .inr ⟨rfl, by rw [e]; rfl⟩⟩
        · omega
      obtain ⟨hy1, hy2⟩ := hy
      have hJ1 := hJ.bst hn hy1
      have hlen : R.length ≤ 16 := by have := hJ.len; simp only at this; omega
      generalize hyy : sel p q k (Q.getD i 0) = y at hy1 hy2 hJ1
      have hyR : sel p q k (R.getD i 0) = y := by rw [hgR, hyy]
      have hx16 : R.getD i 0 < 16 := by omega
      have hy16 : sel p q k (R.getD i 0) < 16 := by omega
      refine WP.rs T false tok (by rfl) (by exact byObl) ?_
      refine WP.rs T false tok (by rfl) (by exact byObl) ?_
      refine WP.rs T false tok (by rfl) (by exact byObl) ?_
      cases hm : mt y
      · have e1 : bst y (R, mt) = (R ++ [y], up mt y true) := bst_new hm
        refine WP.cond (by rfl) (fun h => ?_) (fun h => WP.skip ?_)
        · refine WP.rs T false tok (by rfl) (by exact byObl) ?_
          refine WP.run T false tok (by rfl) (by exact byObl) ?_
          refine WP.run T false tok (by rfl) (by exact byObl) ?_
          refine Again.next ((k + 1, (R ++ [y], up mt y true))) (Ghost.cut (Nat.le_refl _) (tauOf [0, 1, 5]) _ _ (Taken.of [0, 1, 5] (LeAll.cons (by rfl) (by first | with_reducible exact Root.Le.refl _ | with_reducible exact le_dead | (first | exact le_row (by simp) (fun j hj => (ap_bytes R y _ j (by simpa using hj)).trans (by unfold bytesF; rw [← hyR]; rfl)) | exact le_var (by rw [← hyR]; exact byVareq)) | exact byLeq) (by exact byCon) (LeAll.cons (by rfl) (by first | with_reducible exact Root.Le.refl _ | with_reducible exact le_dead | (first | exact le_row (by simp) (fun j hj => (ap_bytes R y _ j (by simpa using hj)).trans (by unfold bytesF; rw [← hyR]; rfl)) | exact le_var (by rw [← hyR]; exact byVareq)) | exact byLeq) (by exact byCon) (LeAll.cons (by rfl) (by first | with_reducible exact Root.Le.refl _ | with_reducible exact le_dead | (first | exact le_row (by simp) (fun j hj => (ap_bytes R y _ j (by simpa using hj)).trans (by unfold bytesF; rw [← hyR]; rfl)) | exact le_var (by rw [← hyR]; exact byVareq)) | exact byLeq) (by exact byCon) (trivial)))) rfl rfl) (by exact bySlots)) (⟨e1 ▸ hJ1, by simp; omega, by rw [← hgR]; simp only [List.getD_eq_getElem?_getD]; rw [List.getElem?_append_left hiR], .inr (e1 ▸ hy2)⟩) (by dsimp only; omega)
        · have h2 : (!mt (sel p q k (R.getD i 0))) = _ := h; rw [hyR, hm] at h2; cases h2
      · have e1 : bst y (R, mt) = (R, mt) := bst_old hm
        refine WP.cond (by rfl) (fun h => ?_) (fun h => WP.skip ?_)
        · have h2 : (!mt (sel p q k (R.getD i 0))) = _ := h; rw [hyR, hm] at h2; cases h2
        · refine WP.run T false tok (by rfl) (by exact byObl) ?_
          refine Again.next ((k + 1, (R, mt))) (Ghost.cut (Nat.le_refl _) (tauOf [0, 1, 2]) _ _ (Taken.of [0, 1, 2] (LeAll.cons (by rfl) (by first | with_reducible exact Root.Le.refl _ | with_reducible exact le_dead | (skip; done) | exact byLeq) (by exact byCon) (LeAll.cons (by rfl) (by first | with_reducible exact Root.Le.refl _ | with_reducible exact le_dead | (skip; done) | exact byLeq) (by exact byCon) (LeAll.cons (by rfl) (by first | with_reducible exact Root.Le.refl _ | with_reducible exact le_dead | (skip; done) | exact byLeq) (by exact byCon) (trivial)))) rfl rfl) (by exact bySlots)) (⟨hJ, hiR, hgR, .inr (e1 ▸ hy2)⟩) (by dsimp only; omega)
    · have hk : k = 2 ∧ (R, mt) = bst (q (Q.getD i 0)) (bst (p (Q.getD i 0)) (Q, met)) := by
        have := of_decide_eq_false hc
        rcases hk with ⟨rfl, _⟩ | ⟨rfl, _⟩ | h
        · simp at this
        · simp at this
        · exact h
      obtain ⟨rfl, e⟩ := hk
      have hr := bmu_round hn hp hq hI hi
      have hs := bres_step hn hp hq hI hi
      simp only at hr hs
      rw [← e] at hr hs
      have hQl : Q.length ≤ 16 := by have := hI.len; simp only at this; omega
      refine WP.run T false tok (by rfl) (by exact byObl) ?_
      refine Again.next ((i + 1, (R, mt))) (Ghost.cut (Nat.le_refl _) (tauOf [0, 1, 2]) _ _ (Taken.of [0, 1, 2] (LeAll.cons (by rfl) (by first | with_reducible exact Root.Le.refl _ | with_reducible exact le_dead | (skip; done) | exact byLeq) (by exact byCon) (LeAll.cons (by rfl) (by first | with_reducible exact Root.Le.refl _ | with_reducible exact le_dead | (skip; done) | exact byLeq) (by exact byCon) (LeAll.cons (by rfl) (by first | with_reducible exact Root.Le.refl _ | with_reducible exact le_dead | (skip; done) | exact byLeq) (by exact byCon) (trivial)))) rfl rfl) (by exact bySlots)) (⟨hr.1, by simp only; omega, hs.trans hF⟩) (by exact hr.2)
  · have hi : ¬ i < Q.length := by have := of_decide_eq_false hc; omega
    have hB : bfs p q = Q := by unfold bfs; rw [← hF, bres_end hi]
    refine WP.rs T false tok (by rfl) (by exact byObl) ?_
    rw [hB]
    exact WP.ret (Ends.val (by rfl) (by exact byObl) (by rfl) (by trivial))

end Go.Proofs.Ytakapfgjdhliaaa
