import Derived.Test.YtakapfgjdhliaaaL3
import Derived.Test.YtakapfgjdhliaaaX3
/- Cycles: both sides. -/
namespace Go.Proofs.Ytakapfgjdhliaaa
open Go.RowKit DM
set_option linter.unusedSimpArgs false
set_option linter.unusedVariables false
set_option maxRecDepth 100000
set_option maxHeartbeats 1000000

theorem l01Cycles_fn (p : Nat → Nat) (n : Nat) (hn : n ≤ 16) (hp : ∀ i, i < n → p i < n) : FnS Try.prog 51 [pl p, .i .i64 n] [] (fun r m' => r = .sl 0 0 (cycs p n).length 1 ∧ m' = [.row 39 (cycs p n).length 1 (rowsF (cycs p n))]) := by
  refine FnS.intoN T tok Try.func51 (by rfl) rfl rfl rfl (by simp) ?_
  refine WP.rs T false tok (by rfl) (by exact byObl) ?_
  refine WP.rs T false tok (by rfl) (by exact byObl) ?_
  refine WP.seq ?_
  refine WP.rs T false tok (by rfl) (by exact byObl) ?_
  refine WP.block ?_
  refine WP.loopH (⟨fun x : Nat × List (List Nat) × (Nat → Bool) => x.1 ≤ n ∧ x.2 = cyTo p x.1, fun x => [(1, .i .i64 n), (2, .p 0 [] 0), (5, .sl 2 0 x.2.1.length 1), (6, .p 1 [] 0), (7, .i .i64 (x.1 : Int))], fun x => [.var (pl p), .var (bl x.2.2), .row 39 x.2.1.length 1 (rowsF x.2.1)], fun x => n - x.1⟩) ((0, [], fun _ => false)) (⟨Nat.zero_le _, rfl⟩) (Ghost.cut (Nat.le_refl _) (tauOf [0, 2, 1]) _ _ (Taken.of [0, 2, 1] (LeAll.cons (by rfl) (by first | with_reducible exact Root.Le.refl _ | with_reducible exact le_dead | (exact le_row (Nat.le_refl _) (fun j hj => absurd hj (Nat.not_lt_zero _))) | exact byLeq) (by exact byCon) (LeAll.cons (by rfl) (by first | with_reducible exact Root.Le.refl _ | with_reducible exact le_dead | (exact le_row (Nat.le_refl _) (fun j hj => absurd hj (Nat.not_lt_zero _))) | exact byLeq) (by exact byCon) (LeAll.cons (by rfl) (by first | with_reducible exact Root.Le.refl _ | with_reducible exact le_dead | (exact le_row (Nat.le_refl _) (fun j hj => absurd hj (Nat.not_lt_zero _))) | exact byLeq) (by exact byCon) (trivial)))) rfl rfl) (by exact bySlots)) ?_
  rintro ⟨i, L, M⟩ ⟨hi, hT⟩
  have hlen := cyTo_len p i
  dsimp only at hi hT
  rw [← hT] at hlen
  simp only at hlen
  dsimp only [Hd.at]
  refine WP.seq ?_
  refine WP.rs T false tok (by rfl) (by exact byObl) ?_
  refine WP.cond (by rfl) (fun hc => WP.skip ?_) (fun hc => WP.exit ?_)
  · have hi : i < n := by have := of_decide_eq_true hc; omega
    clear hc
    refine WP.seq (WP.block ?_)
    refine WP.rs T false tok (by rfl) (by exact byObl) ?_
    refine WP.seq ?_
    refine WP.rs T false tok (by rfl) (by exact byObl) ?_
    refine WP.block ?_
    refine WP.loopH (⟨fun x : Nat × List Nat × (Nat → Bool) => CInv n x.1 x.2.1 x.2.2 ∧ cyc p x.1 x.2.1 x.2.2 = cyc p i [] M, fun x => [(1, .i .i64 n), (2, .p 0 [] 0), (5, .sl 2 0 L.length 1), (6, .p 1 [] 0), (7, .i .i64 (i : Int)), (8, .sl 3 0 x.2.1.length 1), (9, .i .i64 (x.1 : Int))], fun x => [.var (pl p), .var (bl x.2.2), .row 39 L.length 1 (rowsF L), .row 2 x.2.1.length 1 (numsF x.2.1)], fun x => cntU 16 x.2.2⟩) ((i, [], M)) (⟨⟨by simp, hi, by have := cntU_le 16 M; simpa using this⟩, rfl⟩) (Ghost.cut (Nat.le_refl _) (tauOf [0, 1, 2, 3]) _ _ (Taken.of [0, 1, 2, 3] (LeAll.cons (by rfl) (by first | with_reducible exact Root.Le.refl _ | with_reducible exact le_dead | (exact le_row (Nat.le_refl _) (fun j hj => absurd hj (Nat.not_lt_zero _))) | exact byLeq) (by exact byCon) (LeAll.cons (by rfl) (by first | with_reducible exact Root.Le.refl _ | with_reducible exact le_dead | (exact le_row (Nat.le_refl _) (fun j hj => absurd hj (Nat.not_lt_zero _))) | exact byLeq) (by exact byCon) (LeAll.cons (by rfl) (by first | with_reducible exact Root.Le.refl _ | with_reducible exact le_dead | (exact le_row (Nat.le_refl _) (fun j hj => absurd hj (Nat.not_lt_zero _))) | exact byLeq) (by exact byCon) (LeAll.cons (by rfl) (by first | with_reducible exact Root.Le.refl _ | with_reducible exact le_dead | (exact le_row (Nat.le_refl _) (fun j hj => absurd hj (Nat.not_lt_zero _))) | exact byLeq) (by exact byCon) (trivial))))) rfl rfl) (by exact bySlots)) ?_
    rintro ⟨k, l, mt⟩ ⟨hI, hF⟩
    simp only at hI hF
    dsimp only [Hd.at]
    have hk16 : k < 16 := by have := hI.here; omega
    have hl16 : l.length ≤ 16 := by have := hI.len; omega
    have hpk := hp _ hI.here
    refine WP.seq ?_
    refine WP.rs T false tok (by rfl) (by exact byObl) ?_
    refine WP.cond (by rfl) (fun hc => WP.skip ?_) (fun hc => WP.exit ?_)
    · have hm : mt k = false := by simpa using hc
      clear hc
      have hI' := hI.step hn hp hm
      have hc' := cyc_new (p := p) (l := l) hk16 hm
      have hcu := cntU_up (met := mt) hk16 hm
      refine WP.seq (WP.block ?_)
      refine WP.rs T false tok (by rfl) (by exact byObl) ?_
      refine WP.run T false tok (by rfl) (by exact byObl) ?_
      refine WP.run T false tok (by rfl) (by exact byObl) ?_
      refine Again.next ((p k, l ++ [k], up mt k true)) (Ghost.cut (Nat.le_refl _) (tauOf [0, 1, 2, 5]) _ _ (Taken.of [0, 1, 2, 5] (LeAll.cons (by rfl) (by first | with_reducible exact Root.Le.refl _ | with_reducible exact le_dead | (exact le_row (by simp) (fun j hj => ap_nums l k _ j (by simpa using hj))) | exact byLeq) (by exact byCon) (LeAll.cons (by rfl) (by first | with_reducible exact Root.Le.refl _ | with_reducible exact le_dead | (exact le_row (by simp) (fun j hj => ap_nums l k _ j (by simpa using hj))) | exact byLeq) (by exact byCon) (LeAll.cons (by rfl) (by first | with_reducible exact Root.Le.refl _ | with_reducible exact le_dead | (exact le_row (by simp) (fun j hj => ap_nums l k _ j (by simpa using hj))) | exact byLeq) (by exact byCon) (LeAll.cons (by rfl) (by first | with_reducible exact Root.Le.refl _ | with_reducible exact le_dead | (exact le_row (by simp) (fun j hj => ap_nums l k _ j (by simpa using hj))) | exact byLeq) (by exact byCon) (trivial))))) rfl rfl) (by exact bySlots)) (⟨hI', hc'.symm.trans hF⟩) (by dsimp only; omega)
    · have hm : mt k = true := by simpa using hc
      clear hc
      rw [cyc_old hm] at hF
      refine WP.rs T false tok (by rfl) (by exact byObl) ?_
      cases hMi : M i
      · have hl1 : 1 ≤ l.length := by
          have := cyc_pos (p := p) (k := i) (by omega) hMi
          rw [← hF] at this; exact this
        have hn1 : cyTo p (i + 1) = (L ++ [l], mt) := by rw [cyTo_new (by rw [← hT]; exact hMi), ← hT]; simp only; rw [← hF]
        refine WP.cond (by rfl) (fun h => ?_) (fun h => WP.skip ?_)
        · clear h
          refine WP.run T false tok (by rfl) (by exact byObl) ?_
          refine WP.run T false tok (by rfl) (by exact byObl) ?_
          refine Again.step (Ghost.giveLast 5 3 (by rfl) rfl rfl (by rfl) (by rfl) (Nat.le_refl _)) ?_
          refine Again.next ((i + 1, L ++ [l], mt)) (Ghost.cut (Nat.le_refl _) (tauOf [0, 1, 5]) _ _ (Taken.of [0, 1, 5] (LeAll.cons (by rfl) (by first | with_reducible exact Root.Le.refl _ | with_reducible exact le_dead | (exact le_row (by simp) (fun j hj => ap_rows L l _ j (by simpa using hj))) | exact byLeq) (by exact byCon) (LeAll.cons (by rfl) (by first | with_reducible exact Root.Le.refl _ | with_reducible exact le_dead | (exact le_row (by simp) (fun j hj => ap_rows L l _ j (by simpa using hj))) | exact byLeq) (by exact byCon) (LeAll.cons (by rfl) (by first | with_reducible exact Root.Le.refl _ | with_reducible exact le_dead | (exact le_row (by simp) (fun j hj => ap_rows L l _ j (by simpa using hj))) | exact byLeq) (by exact byCon) (trivial)))) rfl rfl) (by exact bySlots)) (⟨hi, hn1.symm⟩) (by dsimp only; omega)
        · have := of_decide_eq_false h; omega
      · rw [cyc_old hMi] at hF
        cases hF
        refine WP.cond (by rfl) (fun h => ?_) (fun h => WP.skip ?_)
        · have := of_decide_eq_true h; simp at this
        · have hn1 : cyTo p (i + 1) = (L, M) := by rw [cyTo_old (by rw [← hT]; exact hMi), ← hT]
          refine WP.run T false tok (by rfl) (by exact byObl) ?_
          refine Again.next ((i + 1, L, M)) (Ghost.cut (Nat.le_refl _) (tauOf [0, 1, 2]) _ _ (Taken.of [0, 1, 2] (LeAll.cons (by rfl) (by first | with_reducible exact Root.Le.refl _ | with_reducible exact le_dead | (skip; done) | exact byLeq) (by exact byCon) (LeAll.cons (by rfl) (by first | with_reducible exact Root.Le.refl _ | with_reducible exact le_dead | (skip; done) | exact byLeq) (by exact byCon) (LeAll.cons (by rfl) (by first | with_reducible exact Root.Le.refl _ | with_reducible exact le_dead | (skip; done) | exact byLeq) (by exact byCon) (trivial)))) rfl rfl) (by exact bySlots)) (⟨hi, hn1.symm⟩) (by dsimp only; omega)
  · have hi : i = n := by have := of_decide_eq_false hc; omega
    subst hi
    have hc' : cycs p i = L := by unfold cycs; rw [← hT]
    rw [hc']
    refine WP.rs T false tok (by rfl) (by exact byObl) ?_
    exact WP.ret (Ends.new [2] (by rfl) (by exact byObl) (LeAll.cons (by rfl) (by first | with_reducible exact Root.Le.refl _ | with_reducible exact le_dead | (skip; done) | exact byLeq) (by exact byCon) (trivial)) rfl rfl (rfl) (sc_sl rfl))

theorem cycles_fn (p : Nat → Nat) (n : Nat) (hn : n ≤ 16) (hp : ∀ i, i < n → p i < n) : FnS Try.prog 50 [pl p, .i .i64 n] [] (fun r m' => r = .sl 0 0 (cycs p n).length 1 ∧ m' = [.row 39 (cycs p n).length 1 (rowsF (cycs p n))]) := by
  refine FnS.intoN T tok Try.func50 (by rfl) rfl rfl rfl (by simp) ?_
  refine WP.rs T false tok (by rfl) (by exact byObl) ?_
  refine WP.rs T false tok (by rfl) (by exact byObl) ?_
  refine WP.rs T false tok (by rfl) (by exact byObl) ?_
  refine WP.seq ?_
  refine WP.rs T false tok (by rfl) (by exact byObl) ?_
  refine WP.block ?_
  refine WP.loopH (⟨fun x : Nat × List (List Nat) × (Nat → Bool) => x.1 ≤ n ∧ x.2 = cyTo p x.1, fun x => [(2, .p 0 [] 0), (5, .sl 2 0 x.2.1.length 1), (6, .p 1 [] 0), (12, .i .i64 n), (13, .i .i64 (x.1 : Int))], fun x => [.var (pl p), .var (bl x.2.2), .row 39 x.2.1.length 1 (rowsF x.2.1)], fun x => n - x.1⟩) ((0, [], fun _ => false)) (⟨Nat.zero_le _, rfl⟩) (Ghost.cut (Nat.le_refl _) (tauOf [0, 2, 1]) _ _ (Taken.of [0, 2, 1] (LeAll.cons (by rfl) (by first | with_reducible exact Root.Le.refl _ | with_reducible exact le_dead | (exact le_row (Nat.le_refl _) (fun j hj => absurd hj (Nat.not_lt_zero _))) | exact byLeq) (by exact byCon) (LeAll.cons (by rfl) (by first | with_reducible exact Root.Le.refl _ | with_reducible exact le_dead | (exact le_row (Nat.le_refl _) (fun j hj => absurd hj (Nat.not_lt_zero _))) | exact byLeq) (by exact byCon) (LeAll.cons (by rfl) (by first | with_reducible exact Root.Le.refl _ | with_reducible exact le_dead | (exact le_row (Nat.le_refl _) (fun j hj => absurd hj (Nat.not_lt_zero _))) | exact byLeq) (by exact byCon) (trivial)))) rfl rfl) (by exact bySlots)) ?_
  rintro ⟨i, L, M⟩ ⟨hi, hT⟩
  have hlen := cyTo_len p i
  dsimp only at hi hT
  rw [← hT] at hlen
  simp only at hlen
  dsimp only [Hd.at]
  refine WP.rs T false tok (by rfl) (by exact byObl) ?_
  refine WP.seq ?_
  refine WP.cond (by rfl) (fun hc => WP.skip ?_) (fun hc => WP.exit ?_)
  · have hi : i < n := by have := of_decide_eq_true hc; omega
    have hi16 : i < 16 := by omega
    clear hc
    refine WP.seq (WP.block ?_)
    refine WP.rs T false tok (by rfl) (by exact byObl) ?_
    refine WP.seq ?_
    refine WP.rs T false tok (by rfl) (by exact byObl) ?_
    cases hMi : M i
    · refine WP.cond (by rfl) (fun h => ?_) (fun h => WP.skip ?_)
      · have h : M i = true := h; rw [hMi] at h; cases h
      clear h
      refine WP.rs T false tok (by rfl) (by exact byObl) ?_
      refine WP.seq ?_
      refine WP.rs T false tok (by rfl) (by exact byObl) ?_
      refine WP.block ?_
      refine WP.loopH (⟨fun x : Nat × List Nat × (Nat → Bool) => CInv n x.1 x.2.1 x.2.2 ∧ cyc p x.1 x.2.1 x.2.2 = cyc p i [] M, fun x => [(2, .p 0 [] 0), (5, .sl 2 0 L.length 1), (6, .p 1 [] 0), (12, .i .i64 n), (13, .i .i64 (i : Int)), (8, .sl 3 0 x.2.1.length 1), (9, .i .i64 (x.1 : Int))], fun x => [.var (pl p), .var (bl x.2.2), .row 39 L.length 1 (rowsF L), .row 2 x.2.1.length 1 (numsF x.2.1)], fun x => cntU 16 x.2.2⟩) ((i, [], M)) (⟨⟨by simp, hi, by have := cntU_le 16 M; simpa using this⟩, rfl⟩) (Ghost.cut (Nat.le_refl _) (tauOf [0, 1, 2, 3]) _ _ (Taken.of [0, 1, 2, 3] (LeAll.cons (by rfl) (by first | with_reducible exact Root.Le.refl _ | with_reducible exact le_dead | (exact le_row (Nat.le_refl _) (fun j hj => absurd hj (Nat.not_lt_zero _))) | exact byLeq) (by exact byCon) (LeAll.cons (by rfl) (by first | with_reducible exact Root.Le.refl _ | with_reducible exact le_dead | (exact le_row (Nat.le_refl _) (fun j hj => absurd hj (Nat.not_lt_zero _))) | exact byLeq) (by exact byCon) (LeAll.cons (by rfl) (by first | with_reducible exact Root.Le.refl _ | with_reducible exact le_dead | (exact le_row (Nat.le_refl _) (fun j hj => absurd hj (Nat.not_lt_zero _))) | exact byLeq) (by exact byCon) (LeAll.cons (by rfl) (by first | with_reducible exact Root.Le.refl _ | with_reducible exact le_dead | (exact le_row (Nat.le_refl _) (fun j hj => absurd hj (Nat.not_lt_zero _))) | exact byLeq) (by exact byCon) (trivial))))) rfl rfl) (by exact bySlots)) ?_
      rintro ⟨k, l, mt⟩ ⟨hI, hF⟩
      simp only at hI hF
      dsimp only [Hd.at]
      have hk16 : k < 16 := by have := hI.here; omega
      have hl16 : l.length ≤ 16 := by have := hI.len; omega
      have hpk := hp _ hI.here
      refine WP.seq ?_
      refine WP.rs T false tok (by rfl) (by exact byObl) ?_
      refine WP.cond (by rfl) (fun hc => WP.skip ?_) (fun hc => WP.exit ?_)
      · have hm : mt k = false := by simpa using hc
        clear hc
        have hI' := hI.step hn hp hm
        have hc' := cyc_new (p := p) (l := l) hk16 hm
        have hcu := cntU_up (met := mt) hk16 hm
        refine WP.seq (WP.block ?_)
        refine WP.rs T false tok (by rfl) (by exact byObl) ?_
        refine WP.run T false tok (by rfl) (by exact byObl) ?_
        refine WP.run T false tok (by rfl) (by exact byObl) ?_
        refine Again.next ((p k, l ++ [k], up mt k true)) (Ghost.cut (Nat.le_refl _) (tauOf [0, 1, 2, 5]) _ _ (Taken.of [0, 1, 2, 5] (LeAll.cons (by rfl) (by first | with_reducible exact Root.Le.refl _ | with_reducible exact le_dead | (exact le_row (by simp) (fun j hj => ap_nums l k _ j (by simpa using hj))) | exact byLeq) (by exact byCon) (LeAll.cons (by rfl) (by first | with_reducible exact Root.Le.refl _ | with_reducible exact le_dead | (exact le_row (by simp) (fun j hj => ap_nums l k _ j (by simpa using hj))) | exact byLeq) (by exact byCon) (LeAll.cons (by rfl) (by first | with_reducible exact Root.Le.refl _ | with_reducible exact le_dead | (exact le_row (by simp) (fun j hj => ap_nums l k _ j (by simpa using hj))) | exact byLeq) (by exact byCon) (LeAll.cons (by rfl) (by first | with_reducible exact Root.Le.refl _ | with_reducible exact le_dead | (exact le_row (by simp) (fun j hj => ap_nums l k _ j (by simpa using hj))) | exact byLeq) (by exact byCon) (trivial))))) rfl rfl) (by exact bySlots)) (⟨hI', hc'.symm.trans hF⟩) (by dsimp only; omega)
      · have hm : mt k = true := by simpa using hc
        clear hc
        rw [cyc_old hm] at hF
        have hn1 : cyTo p (i + 1) = (L ++ [l], mt) := by rw [cyTo_new (by rw [← hT]; exact hMi), ← hT]; simp only; rw [← hF]
        refine WP.run T false tok (by rfl) (by exact byObl) ?_
        refine WP.run T false tok (by rfl) (by exact byObl) ?_
        refine Again.step (Ghost.giveLast 5 3 (by rfl) rfl rfl (by rfl) (by rfl) (Nat.le_refl _)) ?_
        refine Again.next ((i + 1, L ++ [l], mt)) (Ghost.cut (Nat.le_refl _) (tauOf [0, 1, 5]) _ _ (Taken.of [0, 1, 5] (LeAll.cons (by rfl) (by first | with_reducible exact Root.Le.refl _ | with_reducible exact le_dead | (exact le_row (by simp) (fun j hj => ap_rows L l _ j (by simpa using hj))) | exact byLeq) (by exact byCon) (LeAll.cons (by rfl) (by first | with_reducible exact Root.Le.refl _ | with_reducible exact le_dead | (exact le_row (by simp) (fun j hj => ap_rows L l _ j (by simpa using hj))) | exact byLeq) (by exact byCon) (LeAll.cons (by rfl) (by first | with_reducible exact Root.Le.refl _ | with_reducible exact le_dead | (exact le_row (by simp) (fun j hj => ap_rows L l _ j (by simpa using hj))) | exact byLeq) (by exact byCon) (trivial)))) rfl rfl) (by exact bySlots)) (⟨hi, hn1.symm⟩) (by dsimp only; omega)
    · refine WP.cond (by rfl) (fun h => ?_) (fun h => WP.skip ?_)
      · refine WP.exit ?_
        have hn1 : cyTo p (i + 1) = (L, M) := by rw [cyTo_old (by rw [← hT]; exact hMi), ← hT]
        refine WP.run T false tok (by rfl) (by exact byObl) ?_
        refine Again.next ((i + 1, L, M)) (Ghost.cut (Nat.le_refl _) (tauOf [0, 1, 2]) _ _ (Taken.of [0, 1, 2] (LeAll.cons (by rfl) (by first | with_reducible exact Root.Le.refl _ | with_reducible exact le_dead | (skip; done) | exact byLeq) (by exact byCon) (LeAll.cons (by rfl) (by first | with_reducible exact Root.Le.refl _ | with_reducible exact le_dead | (skip; done) | exact byLeq) (by exact byCon) (LeAll.cons (by rfl) (by first | with_reducible exact Root.Le.refl _ | with_reducible exact le_dead | (skip; done) | exact byLeq) (by exact byCon) (trivial)))) rfl rfl) (by exact bySlots)) (⟨hi, hn1.symm⟩) (by dsimp only; omega)
      · have h : M i = false := h; rw [hMi] at h; cases h
  · have hi : i = n := by have := of_decide_eq_false hc; omega
    subst hi
    have hc' : cycs p i = L := by unfold cycs; rw [← hT]
    rw [hc']
    refine WP.rs T false tok (by rfl) (by exact byObl) ?_
    exact WP.ret (Ends.new [2] (by rfl) (by exact byObl) (LeAll.cons (by rfl) (by first | with_reducible exact Root.Le.refl _ | with_reducible exact le_dead | (skip; done) | exact byLeq) (by exact byCon) (trivial)) rfl rfl (rfl) (sc_sl rfl))

end Go.Proofs.Ytakapfgjdhliaaa
