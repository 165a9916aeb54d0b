import Derived.Test.YtakapfgjdhliaaaL11
import Derived.Test.YtakapfgjdhliaaaD37
/- Namings: both sides; the law. -/
namespace Go.Proofs.Ytakapfgjdhliaaa
open Go.RowKit DM
set_option linter.unusedSimpArgs false
set_option linter.unusedVariables false
set_option maxRecDepth 100000
set_option maxHeartbeats 1000000

theorem named_fn (N : Nat) (b w : Nat → Nat) (x : Nat) (hx : x < N) (hN : N ≤ 16) (hb : ∀ i, i < N → b i < N) (hw : ∀ i, i < N → w i < N) : FnS Try.prog 95 [ds_ N b w, .i .i64 x] [] (fun r m' => r = .sl 0 0 (bfsF b w x).length 1 ∧ m' = [.row 5 (bfsF b w x).length 1 (bytesF (bfsF b w x))]) := by
  refine FnS.intoN T tok Try.func95 (by rfl) rfl rfl rfl (by simp) ?_
  refine WP.rs T false tok (by rfl) (by exact byObl) ?_
  refine WP.rs T false tok (by rfl) (by exact byObl) ?_
  refine WP.rs T false tok (by rfl) (by exact byObl) ?_
  refine WP.rs T false tok (by rfl) (by exact byObl) ?_
  refine WP.seq ?_
  refine WP.rs T false tok (by rfl) (by exact byObl) ?_
  refine WP.block ?_
  refine WP.loopH (⟨fun s : Nat × (List Nat × (Nat → Bool)) => BInv N s.2 ∧ s.1 ≤ s.2.1.length ∧ bres b w s.1 s.2 = bres b w 0 (bx x), fun s => [(2, .p 0 [] 0), (5, .p 1 [] 0), (6, .sl 2 0 s.2.1.length 1), (7, .i .i64 (s.1 : Int))], fun s => [.var (ds_ N b w), .var (bl s.2.2), .row 5 s.2.1.length 1 (bytesF s.2.1)], fun s => bmu s.1 s.2⟩) ((0, bx x)) (⟨bx_inv hx hN, Nat.zero_le _, rfl⟩) (Ghost.cut (Nat.le_refl _) (tauOf [0, 1, 2]) _ _ (Taken.of [0, 1, 2] (LeAll.cons (by rfl) (by first | with_reducible exact Root.Le.refl _ | with_reducible exact le_dead | (exact le_row (Nat.le_refl _) (fun j hj => by obtain rfl : j = 0 := (by have : j < 1 := hj; omega); rfl)) | exact byLeq) (by exact byCon) (LeAll.cons (by rfl) (by first | with_reducible exact Root.Le.refl _ | with_reducible exact le_dead | (exact le_row (Nat.le_refl _) (fun j hj => by obtain rfl : j = 0 := (by have : j < 1 := hj; omega); rfl)) | exact byLeq) (by exact byCon) (LeAll.cons (by rfl) (by first | with_reducible exact Root.Le.refl _ | with_reducible exact le_dead | (exact le_row (Nat.le_refl _) (fun j hj => by obtain rfl : j = 0 := (by have : j < 1 := hj; omega); rfl)) | exact byLeq) (by exact byCon) (trivial)))) rfl rfl) (by exact bySlots)) ?_
  rintro ⟨i, Q, met⟩ ⟨hI, hle, hF⟩
  simp only at hI hle hF
  dsimp only [Hd.at]
  refine WP.seq ?_
  refine WP.rs T false tok (by rfl) (by exact byObl) ?_
  refine WP.cond (by rfl) (fun hc => WP.skip ?_) (fun hc => WP.exit ?_)
  · have hi : i < Q.length := by have := of_decide_eq_true hc; omega
    clear hc
    have hy := hI.get hi
    simp only at hy
    have hpx := hb _ hy
    have hqx := hw _ hy
    have hI1 := hI.bst hN hpx
    have hI2 := hI1.bst hN hqx
    refine WP.seq (WP.block ?_)
    refine WP.seq ?_
    refine WP.floatT (by kernel_rfl) 16 (by rfl) (by kernel_rfl) (by rfl) ?_; refine WR.dt (T := T) 14 0 ?_
    refine HW.run false 14 tok (by rfl) (by exact byObl) ?_
    refine HW.finR tok 14 0 (by rfl) (by kernel_rfl) (by kernel_rfl) (by kernel_rfl) (by rfl) (by rfl) rfl rfl ?_
    refine WPL.fin T false tok (by rfl) (by exact byObl) ?_
    refine noPan ?_
    refine WP.block ?_
    refine WP.loopH (⟨fun s : Nat × (List Nat × (Nat → Bool)) => BInv N s.2 ∧ ((s.1 = 0 ∧ s.2 = (Q, met)) ∨ (s.1 = 1 ∧ s.2 = bst (b (Q.getD i 0)) (Q, met)) ∨ (s.1 = 2 ∧ s.2 = bst (w (Q.getD i 0)) (bst (b (Q.getD i 0)) (Q, met)))), fun s => [(2, .p 0 [] 0), (5, .p 1 [] 0), (6, .sl 2 0 s.2.1.length 1), (7, .i .i64 (i : Int)), (36, .sl 3 0 2 1), (37, .i .i64 2), (38, .i .i64 (s.1 : Int))], fun s => [.var (ds_ N b w), .var (bl s.2.2), .row 5 s.2.1.length 1 (bytesF s.2.1), .row 5 2 1 (bytesF [b (Q.getD i 0), w (Q.getD i 0)])], fun s => 2 - s.1⟩) ((0, (Q, met))) (⟨hI, .inl ⟨rfl, rfl⟩⟩) (Ghost.cut (Nat.le_refl _) (tauOf [0, 1, 2, 3]) _ _ (Taken.of [0, 1, 2, 3] (LeAll.cons (by rfl) (by first | with_reducible exact Root.Le.refl _ | with_reducible exact le_dead | (exact le_row (Nat.le_refl _) (fun j hj => by rcases j with _ | _ | j <;> first | rfl | omega)) | exact byLeq) (by exact byCon) (LeAll.cons (by rfl) (by first | with_reducible exact Root.Le.refl _ | with_reducible exact le_dead | (exact le_row (Nat.le_refl _) (fun j hj => by rcases j with _ | _ | j <;> first | rfl | omega)) | exact byLeq) (by exact byCon) (LeAll.cons (by rfl) (by first | with_reducible exact Root.Le.refl _ | with_reducible exact le_dead | (exact le_row (Nat.le_refl _) (fun j hj => by rcases j with _ | _ | j <;> first | rfl | omega)) | exact byLeq) (by exact byCon) (LeAll.cons (by rfl) (by first | with_reducible exact Root.Le.refl _ | with_reducible exact le_dead | (exact le_row (Nat.le_refl _) (fun j hj => by rcases j with _ | _ | j <;> first | rfl | omega)) | exact byLeq) (by exact byCon) (trivial))))) rfl rfl) (by exact bySlots)) ?_
    rintro ⟨k, R, mt⟩ ⟨hJ, hk⟩
    simp only at hJ hk
    dsimp only [Hd.at]
    refine WP.rs T false tok (by rfl) (by exact byObl) ?_
    refine WP.seq ?_
    refine WP.cond (by rfl) (fun hc => WP.skip ?_) (fun hc => WP.exit ?_)
    · have hk2 : k < 2 := by have := of_decide_eq_true hc; omega
      clear hc
      refine WP.seq (WP.block ?_)
      have hy : [b (Q.getD i 0), w (Q.getD i 0)].getD k 0 < N ∧ ((k + 1 = 1 ∧ bst ([b (Q.getD i 0), w (Q.getD i 0)].getD k 0) (R, mt) = bst (b (Q.getD i 0)) (Q, met)) ∨ (k + 1 = 2 ∧ bst ([b (Q.getD i 0), w (Q.getD i 0)].getD k 0) (R, mt) = bst (w (Q.getD i 0)) (bst (b (Q.getD i 0)) (Q, met)))) := by
        rcases hk with ⟨rfl, e⟩ | ⟨rfl, e⟩ | ⟨rfl, e⟩
        · exact ⟨hpx, .inl ⟨rfl, by rw [e]; rfl⟩⟩
        · exact ⟨hqx, .inr ⟨rfl, by rw [e]; rfl⟩⟩
        · omega
      obtain ⟨hy1, hy2⟩ := hy
      have hJ1 := hJ.bst hN hy1
      have hlen : R.length ≤ 16 := by have := hJ.len; simp only at this; omega
      generalize hyy : [b (Q.getD i 0), w (Q.getD i 0)].getD k 0 = y at hy1 hy2 hJ1
      have hb' : bytesF [b (Q.getD i 0), w (Q.getD i 0)] k = .i .u8 ((y : Nat) : Int) := by unfold bytesF; rw [hyy]
      have hy16 : [b (Q.getD i 0), w (Q.getD i 0)].getD k 0 < 16 := by omega
      refine WP.rs T false tok (by rfl) (by exact byObl) ?_
      refine WP.rs T false tok (by rfl) (by exact byObl) ?_
      cases hm : mt y
      · have e1 : bst y (R, mt) = (R ++ [y], up mt y true) := bst_new hm
        refine WP.cond (by rfl) (fun h => ?_) (fun h => WP.skip ?_)
        · refine WP.rs T false tok (by rfl) (by exact byObl) ?_
          refine WP.run T false tok (by rfl) (by exact byObl) ?_
          refine WP.run T false tok (by rfl) (by exact byObl) ?_
          refine Again.next ((k + 1, (R ++ [y], up mt y true))) (Ghost.cut (Nat.le_refl _) (tauOf [0, 1, 5, 3]) _ _ (Taken.of [0, 1, 5, 3] (LeAll.cons (by rfl) (by first | with_reducible exact Root.Le.refl _ | with_reducible exact le_dead | (first | exact le_row (by simp) (fun j hj => (ap_bytes R y _ j (by simpa using hj)).trans (by unfold bytesF; rw [← hyy]; rfl)) | exact le_var (by rw [← hyy]; exact byVareq)) | exact byLeq) (by exact byCon) (LeAll.cons (by rfl) (by first | with_reducible exact Root.Le.refl _ | with_reducible exact le_dead | (first | exact le_row (by simp) (fun j hj => (ap_bytes R y _ j (by simpa using hj)).trans (by unfold bytesF; rw [← hyy]; rfl)) | exact le_var (by rw [← hyy]; exact byVareq)) | exact byLeq) (by exact byCon) (LeAll.cons (by rfl) (by first | with_reducible exact Root.Le.refl _ | with_reducible exact le_dead | (first | exact le_row (by simp) (fun j hj => (ap_bytes R y _ j (by simpa using hj)).trans (by unfold bytesF; rw [← hyy]; rfl)) | exact le_var (by rw [← hyy]; exact byVareq)) | exact byLeq) (by exact byCon) (LeAll.cons (by rfl) (by first | with_reducible exact Root.Le.refl _ | with_reducible exact le_dead | (first | exact le_row (by simp) (fun j hj => (ap_bytes R y _ j (by simpa using hj)).trans (by unfold bytesF; rw [← hyy]; rfl)) | exact le_var (by rw [← hyy]; exact byVareq)) | exact byLeq) (by exact byCon) (trivial))))) rfl rfl) (by exact bySlots)) (⟨e1 ▸ hJ1, .inr (e1 ▸ hy2)⟩) (by dsimp only; omega)
        · have h2 : (!mt ([b (Q.getD i 0), w (Q.getD i 0)].getD k 0)) = _ := h; rw [hyy, hm] at h2; cases h2
      · have e1 : bst y (R, mt) = (R, mt) := bst_old hm
        refine WP.cond (by rfl) (fun h => ?_) (fun h => WP.skip ?_)
        · have h2 : (!mt ([b (Q.getD i 0), w (Q.getD i 0)].getD k 0)) = _ := h; rw [hyy, hm] at h2; cases h2
        · refine WP.run T false tok (by rfl) (by exact byObl) ?_
          refine Again.next ((k + 1, (R, mt))) (Ghost.cut (Nat.le_refl _) (tauOf [0, 1, 2, 3]) _ _ (Taken.of [0, 1, 2, 3] (LeAll.cons (by rfl) (by first | with_reducible exact Root.Le.refl _ | with_reducible exact le_dead | (skip; done) | exact byLeq) (by exact byCon) (LeAll.cons (by rfl) (by first | with_reducible exact Root.Le.refl _ | with_reducible exact le_dead | (skip; done) | exact byLeq) (by exact byCon) (LeAll.cons (by rfl) (by first | with_reducible exact Root.Le.refl _ | with_reducible exact le_dead | (skip; done) | exact byLeq) (by exact byCon) (LeAll.cons (by rfl) (by first | with_reducible exact Root.Le.refl _ | with_reducible exact le_dead | (skip; done) | exact byLeq) (by exact byCon) (trivial))))) rfl rfl) (by exact bySlots)) (⟨hJ, .inr (e1 ▸ hy2)⟩) (by dsimp only; omega)
    · have hk : k = 2 ∧ (R, mt) = bst (w (Q.getD i 0)) (bst (b (Q.getD i 0)) (Q, met)) := by
        have := of_decide_eq_false hc
        rcases hk with ⟨rfl, _⟩ | ⟨rfl, _⟩ | h
        · simp at this
        · simp at this
        · exact h
      obtain ⟨rfl, e⟩ := hk
      have hr := bmu_round hN hb hw hI hi
      have hs := bres_step hN hb hw hI hi
      simp only at hr hs
      rw [← e] at hr hs
      have hl := bmu_bst hN (s := (Q, met)) hpx i (by simp only; omega)
      have hl2 := bmu_bst hN (s := bst (b (Q.getD i 0)) (Q, met)) hqx i (by simp only at hl ⊢; omega)
      rw [← e] at hl2
      simp only at hl hl2
      have hQl : Q.length ≤ 16 := by have := hI.len; simp only at this; omega
      refine WP.run T false tok (by rfl) (by exact byObl) ?_
      refine Again.next ((i + 1, (R, mt))) (Ghost.cut (Nat.le_refl _) (tauOf [0, 1, 2]) _ _ (Taken.of [0, 1, 2] (LeAll.cons (by rfl) (by first | with_reducible exact Root.Le.refl _ | with_reducible exact le_dead | (skip; done) | exact byLeq) (by exact byCon) (LeAll.cons (by rfl) (by first | with_reducible exact Root.Le.refl _ | with_reducible exact le_dead | (skip; done) | exact byLeq) (by exact byCon) (LeAll.cons (by rfl) (by first | with_reducible exact Root.Le.refl _ | with_reducible exact le_dead | (skip; done) | exact byLeq) (by exact byCon) (trivial)))) rfl rfl) (by exact bySlots)) (⟨hr.1, by simp only; omega, hs.trans hF⟩) (by exact hr.2)
  · have hi : ¬ i < Q.length := by have := of_decide_eq_false hc; omega
    have hB : bfsF b w x = Q := by unfold bfsF; rw [← hF, bres_end hi]
    rw [hB]
    refine WP.rs T false tok (by rfl) (by exact byObl) ?_
    exact WP.ret (Ends.new [2] (by rfl) (by exact byObl) (LeAll.cons (by rfl) (by first | with_reducible exact Root.Le.refl _ | with_reducible exact le_dead | (skip; done) | exact byLeq) (by exact byCon) (trivial)) rfl rfl (rfl) (sc_sl rfl))

theorem naming_fn (N : Nat) (b w : Nat → Nat) (x : Nat) (hx : x < N) (hN : N ≤ 16) (hb : ∀ i, i < N → b i < N) (hw : ∀ i, i < N → w i < N) : FnP Try.prog 88 [ds_ N b w, .i .i64 x] (pl (nameF b w x)) := by
  have hlen := bfsF_len hN hb hw hx
  have hinv := bfsF_inv hN hb hw hx
  have hsm : ∀ k, k < (bfsF b w x).length → (bfsF b w x).getD k 0 < 16 := fun k hk => by have := hinv.get hk; unfold bfsF; omega
  unfold nameF
  have hnd := named_fn N b w x hx hN hb hw
  generalize bfsF b w x = F at *
  refine FnS.into T tok Try.func88 (by rfl) rfl rfl rfl (by simp) ?_
  refine WP.rs T false tok (by rfl) (by exact byObl) ?_
  refine WP.rs T false tok (by rfl) (by exact byObl) ?_
  refine WP.seq ?_
  refine WP.rw ?_
  refine WPL.run T false 2 tok (by rfl) (by exact byObl) ?_
  refine WPL.callN [] (.sl 3 0 F.length 1) (hnd) (trivial) (by rfl) (by rfl) (by exact byArgs) (by rfl) (by rfl) (by simp [Sc, sc_pl, sc_ds]) (by exact byAllc) (rfl) (by exact bySc) rfl ?_
  refine WPL.fin T false tok (by rfl) (by exact byObl) ?_
  refine WP.block ?_
  refine WP.loopH (⟨fun k : Nat => k ≤ F.length, fun k => [(4, .p 0 [] 0), (5, .p 1 [] 0), (11, .sl 2 0 F.length 1), (12, .i .i64 (F.length : Int)), (13, .i .i64 (k : Int))], fun k => [.var (pl fun _ => 0), .var (pl (nmTo F k)), .row 5 F.length 1 (bytesF F)], fun k => F.length - k⟩) (0) (Nat.zero_le _) (Ghost.cut (Nat.le_refl _) (tauOf [1, 2, 3]) _ _ (Taken.of [1, 2, 3] (LeAll.cons (by rfl) (by first | with_reducible exact Root.Le.refl _ | with_reducible exact le_dead | (skip; done) | exact byLeq) (by exact byCon) (LeAll.cons (by rfl) (by first | with_reducible exact Root.Le.refl _ | with_reducible exact le_dead | (skip; done) | exact byLeq) (by exact byCon) (LeAll.cons (by rfl) (by first | with_reducible exact Root.Le.refl _ | with_reducible exact le_dead | (skip; done) | exact byLeq) (by exact byCon) (trivial)))) rfl rfl) (by exact bySlots)) ?_
  intro k hk
  dsimp only at hk
  dsimp only [Hd.at]
  refine WP.rs T false tok (by rfl) (by exact byObl) ?_
  refine WP.seq ?_
  refine WP.cond (by rfl) (fun hc => WP.skip ?_) (fun hc => WP.exit ?_)
  · have hk : k < F.length := by have := of_decide_eq_true hc; omega
    clear hc
    have h1 := hsm k hk
    refine WP.seq (WP.block ?_)
    refine WP.rs T false tok (by rfl) (by exact byObl) ?_
    refine WP.run T false tok (by rfl) (by exact byObl) ?_
    refine WP.run T false tok (by rfl) (by exact byObl) ?_
    refine Again.next (k + 1) (Ghost.cut (Nat.le_refl _) (tauOf [0, 1, 2]) _ _ (Taken.of [0, 1, 2] (LeAll.cons (by rfl) (by first | with_reducible exact Root.Le.refl _ | with_reducible exact le_dead | (skip; done) | exact byLeq) (by exact byCon) (LeAll.cons (by rfl) (by first | with_reducible exact Root.Le.refl _ | with_reducible exact le_dead | (skip; done) | exact byLeq) (by exact byCon) (LeAll.cons (by rfl) (by first | with_reducible exact Root.Le.refl _ | with_reducible exact le_dead | (skip; done) | exact byLeq) (by exact byCon) (trivial)))) rfl rfl) (by exact bySlots)) (hk) (by dsimp only; omega)
  · have hk : k = F.length := by have := of_decide_eq_false hc; omega
    subst hk
    refine WP.rs T false tok (by rfl) (by exact byObl) ?_
    exact WP.ret (Ends.val (by rfl) (by exact byObl) (by rfl) (by exact sc_pl _ _))

theorem l02Naming_fn (N : Nat) (b w : Nat → Nat) (x : Nat) (hx : x < N) (hN : N ≤ 16) (hb : ∀ i, i < N → b i < N) (hw : ∀ i, i < N → w i < N) : FnP Try.prog 82 [ds_ N b w, .i .i64 x] (pl (nameF b w x)) := by
  have hpre : ∀ (i : Nat) (s : List Nat × (Nat → Bool)), bres b w i s = bres b w 0 (bx x) → i < s.1.length → (bfsF b w x).getD i 0 = s.1.getD i 0 := by
    intro i s hs hi
    unfold bfsF
    rw [← hs]
    exact pre_getD (brun_pre _ _ _ _ _) hi
  have hlen := bfsF_len hN hb hw hx
  have hfin : ∀ (i : Nat) (s : List Nat × (Nat → Bool)), bres b w i s = bres b w 0 (bx x) → ¬ i < s.1.length → bfsF b w x = s.1 := fun i s hs hi => by unfold bfsF; rw [← hs, bres_end hi]
  unfold nameF
  generalize bfsF b w x = F at *
  refine FnS.into T tok Try.func82 (by rfl) rfl rfl rfl (by simp) ?_
  refine WP.rs T false tok (by rfl) (by exact byObl) ?_
  refine WP.rs T false tok (by rfl) (by exact byObl) ?_
  refine WP.rs T false tok (by rfl) (by exact byObl) ?_
  refine WP.seq ?_
  refine WP.rs T false tok (by rfl) (by exact byObl) ?_
  refine WP.block ?_
  refine WP.loopH (⟨fun s : Nat × (List Nat × (Nat → Bool)) => BInv N s.2 ∧ s.1 ≤ s.2.1.length ∧ bres b w s.1 s.2 = bres b w 0 (bx x), fun s => [(2, .p 0 [] 0), (4, .p 1 [] 0), (5, .p 2 [] 0), (6, .p 3 [] 0), (7, .sl 4 0 s.2.1.length 1), (8, .i .i64 (s.1 : Int))], fun s => [.var (ds_ N b w), .var (pl fun _ => 0), .var (pl (nmTo F s.1)), .var (bl s.2.2), .row 5 s.2.1.length 1 (bytesF s.2.1)], fun s => bmu s.1 s.2⟩) ((0, bx x)) (⟨bx_inv hx hN, Nat.zero_le _, rfl⟩) (Ghost.cut (Nat.le_refl _) (tauOf [0, 1, 3, 4, 2]) _ _ (Taken.of [0, 1, 3, 4, 2] (LeAll.cons (by rfl) (by first | with_reducible exact Root.Le.refl _ | with_reducible exact le_dead | (exact le_row (Nat.le_refl _) (fun j hj => by obtain rfl : j = 0 := (by have : j < 1 := hj; omega); rfl)) | exact byLeq) (by exact byCon) (LeAll.cons (by rfl) (by first | with_reducible exact Root.Le.refl _ | with_reducible exact le_dead | (exact le_row (Nat.le_refl _) (fun j hj => by obtain rfl : j = 0 := (by have : j < 1 := hj; omega); rfl)) | exact byLeq) (by exact byCon) (LeAll.cons (by rfl) (by first | with_reducible exact Root.Le.refl _ | with_reducible exact le_dead | (exact le_row (Nat.le_refl _) (fun j hj => by obtain rfl : j = 0 := (by have : j < 1 := hj; omega); rfl)) | exact byLeq) (by exact byCon) (LeAll.cons (by rfl) (by first | with_reducible exact Root.Le.refl _ | with_reducible exact le_dead | (exact le_row (Nat.le_refl _) (fun j hj => by obtain rfl : j = 0 := (by have : j < 1 := hj; omega); rfl)) | exact byLeq) (by exact byCon) (LeAll.cons (by rfl) (by first | with_reducible exact Root.Le.refl _ | with_reducible exact le_dead | (exact le_row (Nat.le_refl _) (fun j hj => by obtain rfl : j = 0 := (by have : j < 1 := hj; omega); rfl)) | exact byLeq) (by exact byCon) (trivial)))))) rfl rfl) (by exact bySlots)) ?_
  rintro ⟨i, Q, met⟩ ⟨hI, hle, hF⟩
  simp only at hI hle hF
  dsimp only [Hd.at]
  refine WP.seq ?_
  refine WP.rs T false tok (by rfl) (by exact byObl) ?_
  refine WP.cond (by rfl) (fun hc => WP.skip ?_) (fun hc => WP.exit ?_)
  · have hi : i < Q.length := by have := of_decide_eq_true hc; omega
    clear hc
    have hy := hI.get hi
    simp only at hy
    have hpx := hb _ hy
    have hqx := hw _ hy
    have hI1 := hI.bst hN hpx
    have hI2 := hI1.bst hN hqx
    have hQl : Q.length ≤ 16 := by have := hI.len; simp only at this; omega
    have hFi := hpre i (Q, met) hF hi
    simp only at hFi
    have hup : up (nmTo F i) (Q.getD i 0) i = nmTo F (i + 1) := by rw [← hFi]; rfl
    refine WP.seq (WP.block ?_)
    refine WP.rs T false tok (by rfl) (by exact byObl) ?_
    refine WP.rs T false tok (by rfl) (by exact byObl) ?_
    refine WP.rs T false tok (by rfl) (by exact byObl) ?_
    refine WP.block ?_
    refine WP.loopH (⟨fun s : Nat × (List Nat × (Nat → Bool)) => BInv N s.2 ∧ ((s.1 = 0 ∧ s.2 = (Q, met)) ∨ (s.1 = 1 ∧ s.2 = bst (b (Q.getD i 0)) (Q, met)) ∨ (s.1 = 2 ∧ s.2 = bst (w (Q.getD i 0)) (bst (b (Q.getD i 0)) (Q, met)))), fun s => [(2, .p 0 [] 0), (4, .p 1 [] 0), (5, .p 2 [] 0), (6, .p 3 [] 0), (7, .sl 4 0 s.2.1.length 1), (8, .i .i64 (i : Int)), (9, .i .u8 ((Q.getD i 0 : Nat) : Int)), (10, .i .i64 (s.1 : Int))], fun s => [.var (ds_ N b w), .var (pl fun _ => 0), .var (pl (nmTo F (i + 1))), .var (bl s.2.2), .row 5 s.2.1.length 1 (bytesF s.2.1)], fun s => 2 - s.1⟩) ((0, (Q, met))) (⟨hI, .inl ⟨rfl, rfl⟩⟩) (Ghost.cut (Nat.le_refl _) (tauOf [0, 1, 2, 3, 4]) _ _ (Taken.of [0, 1, 2, 3, 4] (LeAll.cons (by rfl) (by first | with_reducible exact Root.Le.refl _ | with_reducible exact le_dead | (exact le_var (by rw [← hup]; exact byVareq)) | exact byLeq) (by exact byCon) (LeAll.cons (by rfl) (by first | with_reducible exact Root.Le.refl _ | with_reducible exact le_dead | (exact le_var (by rw [← hup]; exact byVareq)) | exact byLeq) (by exact byCon) (LeAll.cons (by rfl) (by first | with_reducible exact Root.Le.refl _ | with_reducible exact le_dead | (exact le_var (by rw [← hup]; exact byVareq)) | exact byLeq) (by exact byCon) (LeAll.cons (by rfl) (by first | with_reducible exact Root.Le.refl _ | with_reducible exact le_dead | (exact le_var (by rw [← hup]; exact byVareq)) | exact byLeq) (by exact byCon) (LeAll.cons (by rfl) (by first | with_reducible exact Root.Le.refl _ | with_reducible exact le_dead | (exact le_var (by rw [← hup]; exact byVareq)) | exact byLeq) (by exact byCon) (trivial)))))) rfl rfl) (by exact bySlots)) ?_
    rintro ⟨k, R, mt⟩ ⟨hJ, hk⟩
    simp only at hJ hk
    dsimp only [Hd.at]
    have hlen' : R.length ≤ 16 := by have := hJ.len; simp only at this; omega
    refine WP.seq ?_
    refine WP.rs T false tok (by rfl) (by exact byObl) ?_
    refine WP.cond (by rfl) (fun hc => WP.skip ?_) (fun hc => WP.exit ?_)
    · have hk2 : k < 2 := by have := of_decide_eq_true hc; omega
      clear hc
      refine WP.seq (WP.block ?_)
      refine WP.rs T false tok (by rfl) (by exact byObl) ?_
      refine WP.seq ?_
      refine WP.rs T false tok (by rfl) (by exact byObl) ?_
      rcases hk with ⟨rfl, e⟩ | ⟨rfl, e⟩ | ⟨rfl, e⟩
      · have hJ1 := hJ.bst hN hpx
        have hy2 : bst (b (Q.getD i 0)) (R, mt) = bst (b (Q.getD i 0)) (Q, met) := by rw [e]
        have hy16 : b (Q.getD i 0) < 16 := by omega
        refine WP.cond (by rfl) (fun h0 => ?_) (fun h0 => WP.skip ?_)
        · simp at h0
        · refine WP.rs T false tok (by rfl) (by exact byObl) ?_
          cases hm : mt (b (Q.getD i 0))
          · have e1 : bst (b (Q.getD i 0)) (R, mt) = (R ++ [(b (Q.getD i 0))], up mt (b (Q.getD i 0)) true) := bst_new hm
            refine WP.cond (by rfl) (fun h => ?_) (fun h => WP.skip ?_)
            · refine WP.rs T false tok (by rfl) (by exact byObl) ?_
              refine WP.run T false tok (by rfl) (by exact byObl) ?_
              refine WP.run T false tok (by rfl) (by exact byObl) ?_
              refine Again.next ((1, (R ++ [(b (Q.getD i 0))], up mt (b (Q.getD i 0)) true))) (Ghost.cut (Nat.le_refl _) (tauOf [0, 1, 2, 3, 6]) _ _ (Taken.of [0, 1, 2, 3, 6] (LeAll.cons (by rfl) (by first | with_reducible exact Root.Le.refl _ | with_reducible exact le_dead | (exact le_row (by simp) (fun j hj => ap_bytes R (b (Q.getD i 0)) _ j (by simpa using hj))) | exact byLeq) (by exact byCon) (LeAll.cons (by rfl) (by first | with_reducible exact Root.Le.refl _ | with_reducible exact le_dead | (exact le_row (by simp) (fun j hj => ap_bytes R (b (Q.getD i 0)) _ j (by simpa using hj))) | exact byLeq) (by exact byCon) (LeAll.cons (by rfl) (by first | with_reducible exact Root.Le.refl _ | with_reducible exact le_dead | (exact le_row (by simp) (fun j hj => ap_bytes R (b (Q.getD i 0)) _ j (by simpa using hj))) | exact byLeq) (by exact byCon) (LeAll.cons (by rfl) (by first | with_reducible exact Root.Le.refl _ | with_reducible exact le_dead | (exact le_row (by simp) (fun j hj => ap_bytes R (b (Q.getD i 0)) _ j (by simpa using hj))) | exact byLeq) (by exact byCon) (LeAll.cons (by rfl) (by first | with_reducible exact Root.Le.refl _ | with_reducible exact le_dead | (exact le_row (by simp) (fun j hj => ap_bytes R (b (Q.getD i 0)) _ j (by simpa using hj))) | exact byLeq) (by exact byCon) (trivial)))))) rfl rfl) (by exact bySlots)) (⟨e1 ▸ hJ1, .inr (.inl ⟨rfl, e1 ▸ hy2⟩)⟩) (by dsimp only; omega)
            · have h2 : (!mt (b (Q.getD i 0))) = _ := h; rw [hm] at h2; cases h2
          · have e1 : bst (b (Q.getD i 0)) (R, mt) = (R, mt) := bst_old hm
            refine WP.cond (by rfl) (fun h => ?_) (fun h => WP.skip ?_)
            · have h2 : (!mt (b (Q.getD i 0))) = _ := h; rw [hm] at h2; cases h2
            · refine WP.run T false tok (by rfl) (by exact byObl) ?_
              refine Again.next ((1, (R, mt))) (Ghost.cut (Nat.le_refl _) (tauOf [0, 1, 2, 3, 4]) _ _ (Taken.of [0, 1, 2, 3, 4] (LeAll.cons (by rfl) (by first | with_reducible exact Root.Le.refl _ | with_reducible exact le_dead | (skip; done) | exact byLeq) (by exact byCon) (LeAll.cons (by rfl) (by first | with_reducible exact Root.Le.refl _ | with_reducible exact le_dead | (skip; done) | exact byLeq) (by exact byCon) (LeAll.cons (by rfl) (by first | with_reducible exact Root.Le.refl _ | with_reducible exact le_dead | (skip; done) | exact byLeq) (by exact byCon) (LeAll.cons (by rfl) (by first | with_reducible exact Root.Le.refl _ | with_reducible exact le_dead | (skip; done) | exact byLeq) (by exact byCon) (LeAll.cons (by rfl) (by first | with_reducible exact Root.Le.refl _ | with_reducible exact le_dead | (skip; done) | exact byLeq) (by exact byCon) (trivial)))))) rfl rfl) (by exact bySlots)) (⟨hJ, .inr (.inl ⟨rfl, e1 ▸ hy2⟩)⟩) (by dsimp only; omega)
      · have hJ1 := hJ.bst hN hqx
        have hy2 : bst (w (Q.getD i 0)) (R, mt) = bst (w (Q.getD i 0)) (bst (b (Q.getD i 0)) (Q, met)) := by rw [e]
        have hy16 : w (Q.getD i 0) < 16 := by omega
        refine WP.cond (by rfl) (fun h0 => ?_) (fun h0 => WP.skip ?_)
        · refine WP.run T false tok (by rfl) (by exact byObl) ?_
          refine WP.rs T false tok (by rfl) (by exact byObl) ?_
          cases hm : mt (w (Q.getD i 0))
          · have e1 : bst (w (Q.getD i 0)) (R, mt) = (R ++ [(w (Q.getD i 0))], up mt (w (Q.getD i 0)) true) := bst_new hm
            refine WP.cond (by rfl) (fun h => ?_) (fun h => WP.skip ?_)
            · refine WP.rs T false tok (by rfl) (by exact byObl) ?_
              refine WP.run T false tok (by rfl) (by exact byObl) ?_
              refine WP.run T false tok (by rfl) (by exact byObl) ?_
              refine Again.next ((2, (R ++ [(w (Q.getD i 0))], up mt (w (Q.getD i 0)) true))) (Ghost.cut (Nat.le_refl _) (tauOf [0, 1, 2, 3, 6]) _ _ (Taken.of [0, 1, 2, 3, 6] (LeAll.cons (by rfl) (by first | with_reducible exact Root.Le.refl _ | with_reducible exact le_dead | (exact le_row (by simp) (fun j hj => ap_bytes R (w (Q.getD i 0)) _ j (by simpa using hj))) | exact byLeq) (by exact byCon) (LeAll.cons (by rfl) (by first | with_reducible exact Root.Le.refl _ | with_reducible exact le_dead | (exact le_row (by simp) (fun j hj => ap_bytes R (w (Q.getD i 0)) _ j (by simpa using hj))) | exact byLeq) (by exact byCon) (LeAll.cons (by rfl) (by first | with_reducible exact Root.Le.refl _ | with_reducible exact le_dead | (exact le_row (by simp) (fun j hj => ap_bytes R (w (Q.getD i 0)) _ j (by simpa using hj))) | exact byLeq) (by exact byCon) (LeAll.cons (by rfl) (by first | with_reducible exact Root.Le.refl _ | with_reducible exact le_dead | (exact le_row (by simp) (fun j hj => ap_bytes R (w (Q.getD i 0)) _ j (by simpa using hj))) | exact byLeq) (by exact byCon) (LeAll.cons (by rfl) (by first | with_reducible exact Root.Le.refl _ | with_reducible exact le_dead | (exact le_row (by simp) (fun j hj => ap_bytes R (w (Q.getD i 0)) _ j (by simpa using hj))) | exact byLeq) (by exact byCon) (trivial)))))) rfl rfl) (by exact bySlots)) (⟨e1 ▸ hJ1, .inr (.inr ⟨rfl, e1 ▸ hy2⟩)⟩) (by dsimp only; omega)
            · have h2 : (!mt (w (Q.getD i 0))) = _ := h; rw [hm] at h2; cases h2
          · have e1 : bst (w (Q.getD i 0)) (R, mt) = (R, mt) := bst_old hm
            refine WP.cond (by rfl) (fun h => ?_) (fun h => WP.skip ?_)
            · have h2 : (!mt (w (Q.getD i 0))) = _ := h; rw [hm] at h2; cases h2
            · refine WP.run T false tok (by rfl) (by exact byObl) ?_
              refine Again.next ((2, (R, mt))) (Ghost.cut (Nat.le_refl _) (tauOf [0, 1, 2, 3, 4]) _ _ (Taken.of [0, 1, 2, 3, 4] (LeAll.cons (by rfl) (by first | with_reducible exact Root.Le.refl _ | with_reducible exact le_dead | (skip; done) | exact byLeq) (by exact byCon) (LeAll.cons (by rfl) (by first | with_reducible exact Root.Le.refl _ | with_reducible exact le_dead | (skip; done) | exact byLeq) (by exact byCon) (LeAll.cons (by rfl) (by first | with_reducible exact Root.Le.refl _ | with_reducible exact le_dead | (skip; done) | exact byLeq) (by exact byCon) (LeAll.cons (by rfl) (by first | with_reducible exact Root.Le.refl _ | with_reducible exact le_dead | (skip; done) | exact byLeq) (by exact byCon) (LeAll.cons (by rfl) (by first | with_reducible exact Root.Le.refl _ | with_reducible exact le_dead | (skip; done) | exact byLeq) (by exact byCon) (trivial)))))) rfl rfl) (by exact bySlots)) (⟨hJ, .inr (.inr ⟨rfl, e1 ▸ hy2⟩)⟩) (by dsimp only; omega)
        · simp at h0
      · omega
    · have hk : k = 2 ∧ (R, mt) = bst (w (Q.getD i 0)) (bst (b (Q.getD i 0)) (Q, met)) := by
        have := of_decide_eq_false hc
        rcases hk with ⟨rfl, _⟩ | ⟨rfl, _⟩ | h
        · simp at this
        · simp at this
        · exact h
      obtain ⟨rfl, e⟩ := hk
      have hr := bmu_round hN hb hw hI hi
      have hs := bres_step hN hb hw hI hi
      simp only at hr hs
      rw [← e] at hr hs
      have hl := bmu_bst hN (s := (Q, met)) hpx i (by simp only; omega)
      have hl2 := bmu_bst hN (s := bst (b (Q.getD i 0)) (Q, met)) hqx i (by simp only at hl ⊢; omega)
      rw [← e] at hl2
      simp only at hl hl2
      refine WP.run T false tok (by rfl) (by exact byObl) ?_
      refine Again.next ((i + 1, (R, mt))) (Ghost.cut (Nat.le_refl _) (tauOf [0, 1, 2, 3, 4]) _ _ (Taken.of [0, 1, 2, 3, 4] (LeAll.cons (by rfl) (by first | with_reducible exact Root.Le.refl _ | with_reducible exact le_dead | (skip; done) | exact byLeq) (by exact byCon) (LeAll.cons (by rfl) (by first | with_reducible exact Root.Le.refl _ | with_reducible exact le_dead | (skip; done) | exact byLeq) (by exact byCon) (LeAll.cons (by rfl) (by first | with_reducible exact Root.Le.refl _ | with_reducible exact le_dead | (skip; done) | exact byLeq) (by exact byCon) (LeAll.cons (by rfl) (by first | with_reducible exact Root.Le.refl _ | with_reducible exact le_dead | (skip; done) | exact byLeq) (by exact byCon) (LeAll.cons (by rfl) (by first | with_reducible exact Root.Le.refl _ | with_reducible exact le_dead | (skip; done) | exact byLeq) (by exact byCon) (trivial)))))) rfl rfl) (by exact bySlots)) (⟨hr.1, by simp only; omega, hs.trans hF⟩) (by exact hr.2)
  · have hi : ¬ i < Q.length := by have := of_decide_eq_false hc; omega
    have hB := hfin i (Q, met) hF hi
    simp only at hB
    have hli : i = F.length := by rw [hB]; omega
    subst hli
    refine WP.rs T false tok (by rfl) (by exact byObl) ?_
    exact WP.ret (Ends.val (by rfl) (by exact byObl) (by rfl) (by exact sc_pl _ _))

end Go.Proofs.Ytakapfgjdhliaaa
