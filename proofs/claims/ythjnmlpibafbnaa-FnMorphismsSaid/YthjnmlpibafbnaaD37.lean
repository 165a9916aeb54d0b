import Derived.Test.YthjnmlpibafbnaaL3
import Derived.Test.YthjnmlpibafbnaaX3
import Derived.Test.YthjnmlpibafbnaaL2
import Derived.Test.YthjnmlpibafbnaaD34
namespace Go.Proofs.Ythjnmlpibafbnaa
open Go.RowKit DM
set_option linter.unusedSimpArgs false
set_option linter.unusedVariables false
set_option maxRecDepth 100000
set_option maxHeartbeats 1000000
theorem l01Cycles_fn (p : Nat → Nat) (n : Nat) (hn : n ≤ 16) (hp : ∀ i, i < n → p i < n) : FnS Try.prog 37 [pl p, .i .i64 n] [] (fun r m' => r = .sl 0 0 (cycs p n).length 1 ∧ m' = [.row 36 (cycs p n).length 1 (rowsF (cycs p n))]) := by
  refine FnS.intoN T tok Try.func37 (by rfl) rfl rfl rfl (by simp) ?_
  refine rS ?_
  refine rS ?_
  refine WP.seq ?_
  refine rS ?_
  refine WP.block ?_
  refine WP.loopH (⟨fun x : Nat × List (List Nat) × (Nat → Bool) => x.1 ≤ n ∧ x.2 = cyTo p x.1, fun x => [(1, .i .i64 n), (2, .p 0 [] 0), (5, .sl 2 0 x.2.1.length 1), (6, .p 1 [] 0), (7, .i .i64 (x.1 : Int))], fun x => [.var (pl p), .var (bl x.2.2), .row 36 x.2.1.length 1 (rowsF x.2.1)], fun x => n - x.1⟩) ((0, [], fun _ => false)) (⟨Nat.zero_le _, rfl⟩) (gC [0, 2, 1] (LeAll.cons (by rfl) (by first | with_reducible exact Root.Le.refl _ | with_reducible exact le_dead | (exact le_row (Nat.le_refl _) (fun j hj => absurd hj (Nat.not_lt_zero _))) | exact byLeq) (by exact byCon) (LeAll.cons (by rfl) (by first | with_reducible exact Root.Le.refl _ | with_reducible exact le_dead | (exact le_row (Nat.le_refl _) (fun j hj => absurd hj (Nat.not_lt_zero _))) | exact byLeq) (by exact byCon) (LeAll.cons (by rfl) (by first | with_reducible exact Root.Le.refl _ | with_reducible exact le_dead | (exact le_row (Nat.le_refl _) (fun j hj => absurd hj (Nat.not_lt_zero _))) | exact byLeq) (by exact byCon) (leZ))))) ?_
  rintro ⟨i, L, M⟩ ⟨hi, hT⟩
  have hlen := cyTo_len p i
  dsimp only at hi hT
  rw [← hT] at hlen
  simp only at hlen
  dsimp only [Hd.at]
  refine WP.seq ?_
  refine rS ?_
  refine WP.cond (by rfl) (fun hc => WP.skip ?_) (fun hc => WP.exit ?_)
  · have hi : i < n := by have := of_decide_eq_true hc; omega
    clear hc
    refine WP.seq (WP.block ?_)
    refine rS ?_
    refine WP.seq ?_
    refine rS ?_
    refine WP.block ?_
    refine WP.loopH (⟨fun x : Nat × List Nat × (Nat → Bool) => CInv n x.1 x.2.1 x.2.2 ∧ cyc p x.1 x.2.1 x.2.2 = cyc p i [] M, fun x => [(1, .i .i64 n), (2, .p 0 [] 0), (5, .sl 2 0 L.length 1), (6, .p 1 [] 0), (7, .i .i64 (i : Int)), (8, .sl 3 0 x.2.1.length 1), (9, .i .i64 (x.1 : Int))], fun x => [.var (pl p), .var (bl x.2.2), .row 36 L.length 1 (rowsF L), .row 2 x.2.1.length 1 (numsF x.2.1)], fun x => cntU 16 x.2.2⟩) ((i, [], M)) (⟨⟨by simp, hi, by have := cntU_le 16 M; simpa using this⟩, rfl⟩) (gC [0, 1, 2, 3] (LeAll.cons (by rfl) (by first | with_reducible exact Root.Le.refl _ | with_reducible exact le_dead | (exact le_row (Nat.le_refl _) (fun j hj => absurd hj (Nat.not_lt_zero _))) | exact byLeq) (by exact byCon) (LeAll.cons (by rfl) (by first | with_reducible exact Root.Le.refl _ | with_reducible exact le_dead | (exact le_row (Nat.le_refl _) (fun j hj => absurd hj (Nat.not_lt_zero _))) | exact byLeq) (by exact byCon) (LeAll.cons (by rfl) (by first | with_reducible exact Root.Le.refl _ | with_reducible exact le_dead | (exact le_row (Nat.le_refl _) (fun j hj => absurd hj (Nat.not_lt_zero _))) | exact byLeq) (by exact byCon) (LeAll.cons (by rfl) (by first | with_reducible exact Root.Le.refl _ | with_reducible exact le_dead | (exact le_row (Nat.le_refl _) (fun j hj => absurd hj (Nat.not_lt_zero _))) | exact byLeq) (by exact byCon) (leZ)))))) ?_
    rintro ⟨k, l, mt⟩ ⟨hI, hF⟩
    simp only at hI hF
    dsimp only [Hd.at]
    have hk16 : k < 16 := by have := hI.here; omega
    have hl16 : l.length ≤ 16 := by have := hI.len; omega
    have hpk := hp _ hI.here
    refine WP.seq ?_
    refine rS ?_
    refine WP.cond (by rfl) (fun hc => WP.skip ?_) (fun hc => WP.exit ?_)
    · have hm : mt k = false := by simpa using hc
      clear hc
      have hI' := hI.step hn hp hm
      have hc' := cyc_new (p := p) (l := l) hk16 hm
      have hcu := cntU_up (met := mt) hk16 hm
      refine WP.seq (WP.block ?_)
      refine rS ?_
      refine rE ?_
      refine rE ?_
      refine Again.next ((p k, l ++ [k], up mt k true)) (gC [0, 1, 2, 5] (LeAll.cons (by rfl) (by first | with_reducible exact Root.Le.refl _ | with_reducible exact le_dead | (exact le_row (by simp) (fun j hj => ap_nums l k _ j (by simpa using hj))) | exact byLeq) (by exact byCon) (LeAll.cons (by rfl) (by first | with_reducible exact Root.Le.refl _ | with_reducible exact le_dead | (exact le_row (by simp) (fun j hj => ap_nums l k _ j (by simpa using hj))) | exact byLeq) (by exact byCon) (LeAll.cons (by rfl) (by first | with_reducible exact Root.Le.refl _ | with_reducible exact le_dead | (exact le_row (by simp) (fun j hj => ap_nums l k _ j (by simpa using hj))) | exact byLeq) (by exact byCon) (LeAll.cons (by rfl) (by first | with_reducible exact Root.Le.refl _ | with_reducible exact le_dead | (exact le_row (by simp) (fun j hj => ap_nums l k _ j (by simpa using hj))) | exact byLeq) (by exact byCon) (leZ)))))) (⟨hI', hc'.symm.trans hF⟩) (by dsimp only; omega)
    · have hm : mt k = true := by simpa using hc
      clear hc
      rw [cyc_old hm] at hF
      refine rS ?_
      cases hMi : M i
      · have hl1 : 1 ≤ l.length := by
          have := cyc_pos (p := p) (k := i) (by omega) hMi
          rw [← hF] at this; exact this
        have hn1 : cyTo p (i + 1) = (L ++ [l], mt) := by rw [cyTo_new (by rw [← hT]; exact hMi), ← hT]; simp only; rw [← hF]
        refine WP.cond (by rfl) (fun h => ?_) (fun h => WP.skip ?_)
        · clear h
          refine rE ?_
          refine rE ?_
          refine Again.step (Ghost.giveLast 5 3 (by rfl) rfl rfl (by rfl) (by rfl) (Nat.le_refl _)) ?_
          refine Again.next ((i + 1, L ++ [l], mt)) (gC [0, 1, 5] (LeAll.cons (by rfl) (by first | with_reducible exact Root.Le.refl _ | with_reducible exact le_dead | (exact le_row (by simp) (fun j hj => ap_rows L l _ j (by simpa using hj))) | exact byLeq) (by exact byCon) (LeAll.cons (by rfl) (by first | with_reducible exact Root.Le.refl _ | with_reducible exact le_dead | (exact le_row (by simp) (fun j hj => ap_rows L l _ j (by simpa using hj))) | exact byLeq) (by exact byCon) (LeAll.cons (by rfl) (by first | with_reducible exact Root.Le.refl _ | with_reducible exact le_dead | (exact le_row (by simp) (fun j hj => ap_rows L l _ j (by simpa using hj))) | exact byLeq) (by exact byCon) (leZ))))) (⟨hi, hn1.symm⟩) (by dsimp only; omega)
        · have := of_decide_eq_false h; omega
      · rw [cyc_old hMi] at hF
        cases hF
        refine WP.cond (by rfl) (fun h => ?_) (fun h => WP.skip ?_)
        · have := of_decide_eq_true h; simp at this
        · have hn1 : cyTo p (i + 1) = (L, M) := by rw [cyTo_old (by rw [← hT]; exact hMi), ← hT]
          refine rE ?_
          refine Again.next ((i + 1, L, M)) (gC [0, 1, 2] (leC (leC (leC leZ)))) (⟨hi, hn1.symm⟩) (by dsimp only; omega)
  · have hi : i = n := by have := of_decide_eq_false hc; omega
    subst hi
    have hc' : cycs p i = L := by unfold cycs; rw [← hT]
    rw [hc']
    refine rS ?_
    exact WP.ret (Ends.new [2] (by rfl) (by exact byObl) (leC leZ) rfl rfl (rfl) (sc_sl rfl))
theorem cycles_fn (p : Nat → Nat) (n : Nat) (hn : n ≤ 16) (hp : ∀ i, i < n → p i < n) : FnS Try.prog 33 [pl p, .i .i64 n] [] (fun r m' => r = .sl 0 0 (cycs p n).length 1 ∧ m' = [.row 36 (cycs p n).length 1 (rowsF (cycs p n))]) := by
  refine FnS.intoN T tok Try.func33 (by rfl) rfl rfl rfl (by simp) ?_
  refine rS ?_
  refine rS ?_
  refine rS ?_
  refine WP.seq ?_
  refine rS ?_
  refine WP.block ?_
  refine WP.loopH (⟨fun x : Nat × List (List Nat) × (Nat → Bool) => x.1 ≤ n ∧ x.2 = cyTo p x.1, fun x => [(2, .p 0 [] 0), (5, .sl 2 0 x.2.1.length 1), (6, .p 1 [] 0), (12, .i .i64 n), (13, .i .i64 (x.1 : Int))], fun x => [.var (pl p), .var (bl x.2.2), .row 36 x.2.1.length 1 (rowsF x.2.1)], fun x => n - x.1⟩) ((0, [], fun _ => false)) (⟨Nat.zero_le _, rfl⟩) (gC [0, 2, 1] (LeAll.cons (by rfl) (by first | with_reducible exact Root.Le.refl _ | with_reducible exact le_dead | (exact le_row (Nat.le_refl _) (fun j hj => absurd hj (Nat.not_lt_zero _))) | exact byLeq) (by exact byCon) (LeAll.cons (by rfl) (by first | with_reducible exact Root.Le.refl _ | with_reducible exact le_dead | (exact le_row (Nat.le_refl _) (fun j hj => absurd hj (Nat.not_lt_zero _))) | exact byLeq) (by exact byCon) (LeAll.cons (by rfl) (by first | with_reducible exact Root.Le.refl _ | with_reducible exact le_dead | (exact le_row (Nat.le_refl _) (fun j hj => absurd hj (Nat.not_lt_zero _))) | exact byLeq) (by exact byCon) (leZ))))) ?_
  rintro ⟨i, L, M⟩ ⟨hi, hT⟩
  have hlen := cyTo_len p i
  dsimp only at hi hT
  rw [← hT] at hlen
  simp only at hlen
  dsimp only [Hd.at]
  refine rS ?_
  refine WP.seq ?_
  refine WP.cond (by rfl) (fun hc => WP.skip ?_) (fun hc => WP.exit ?_)
  · have hi : i < n := by have := of_decide_eq_true hc; omega
    have hi16 : i < 16 := by omega
    clear hc
    refine WP.seq (WP.block ?_)
    refine rS ?_
    refine WP.seq ?_
    refine rS ?_
    cases hMi : M i
    · refine WP.cond (by rfl) (fun h => ?_) (fun h => WP.skip ?_)
      · have h : M i = true := h; rw [hMi] at h; cases h
      clear h
      refine rS ?_
      refine WP.seq ?_
      refine rS ?_
      refine WP.block ?_
      refine WP.loopH (⟨fun x : Nat × List Nat × (Nat → Bool) => CInv n x.1 x.2.1 x.2.2 ∧ cyc p x.1 x.2.1 x.2.2 = cyc p i [] M, fun x => [(2, .p 0 [] 0), (5, .sl 2 0 L.length 1), (6, .p 1 [] 0), (12, .i .i64 n), (13, .i .i64 (i : Int)), (8, .sl 3 0 x.2.1.length 1), (9, .i .i64 (x.1 : Int))], fun x => [.var (pl p), .var (bl x.2.2), .row 36 L.length 1 (rowsF L), .row 2 x.2.1.length 1 (numsF x.2.1)], fun x => cntU 16 x.2.2⟩) ((i, [], M)) (⟨⟨by simp, hi, by have := cntU_le 16 M; simpa using this⟩, rfl⟩) (gC [0, 1, 2, 3] (LeAll.cons (by rfl) (by first | with_reducible exact Root.Le.refl _ | with_reducible exact le_dead | (exact le_row (Nat.le_refl _) (fun j hj => absurd hj (Nat.not_lt_zero _))) | exact byLeq) (by exact byCon) (LeAll.cons (by rfl) (by first | with_reducible exact Root.Le.refl _ | with_reducible exact le_dead | (exact le_row (Nat.le_refl _) (fun j hj => absurd hj (Nat.not_lt_zero _))) | exact byLeq) (by exact byCon) (LeAll.cons (by rfl) (by first | with_reducible exact Root.Le.refl _ | with_reducible exact le_dead | (exact le_row (Nat.le_refl _) (fun j hj => absurd hj (Nat.not_lt_zero _))) | exact byLeq) (by exact byCon) (LeAll.cons (by rfl) (by first | with_reducible exact Root.Le.refl _ | with_reducible exact le_dead | (exact le_row (Nat.le_refl _) (fun j hj => absurd hj (Nat.not_lt_zero _))) | exact byLeq) (by exact byCon) (leZ)))))) ?_
      rintro ⟨k, l, mt⟩ ⟨hI, hF⟩
      simp only at hI hF
      dsimp only [Hd.at]
      have hk16 : k < 16 := by have := hI.here; omega
      have hl16 : l.length ≤ 16 := by have := hI.len; omega
      have hpk := hp _ hI.here
      refine WP.seq ?_
      refine rS ?_
      refine WP.cond (by rfl) (fun hc => WP.skip ?_) (fun hc => WP.exit ?_)
      · have hm : mt k = false := by simpa using hc
        clear hc
        have hI' := hI.step hn hp hm
        have hc' := cyc_new (p := p) (l := l) hk16 hm
        have hcu := cntU_up (met := mt) hk16 hm
        refine WP.seq (WP.block ?_)
        refine rS ?_
        refine rE ?_
        refine rE ?_
        refine Again.next ((p k, l ++ [k], up mt k true)) (gC [0, 1, 2, 5] (LeAll.cons (by rfl) (by first | with_reducible exact Root.Le.refl _ | with_reducible exact le_dead | (exact le_row (by simp) (fun j hj => ap_nums l k _ j (by simpa using hj))) | exact byLeq) (by exact byCon) (LeAll.cons (by rfl) (by first | with_reducible exact Root.Le.refl _ | with_reducible exact le_dead | (exact le_row (by simp) (fun j hj => ap_nums l k _ j (by simpa using hj))) | exact byLeq) (by exact byCon) (LeAll.cons (by rfl) (by first | with_reducible exact Root.Le.refl _ | with_reducible exact le_dead | (exact le_row (by simp) (fun j hj => ap_nums l k _ j (by simpa using hj))) | exact byLeq) (by exact byCon) (LeAll.cons (by rfl) (by first | with_reducible exact Root.Le.refl _ | with_reducible exact le_dead | (exact le_row (by simp) (fun j hj => ap_nums l k _ j (by simpa using hj))) | exact byLeq) (by exact byCon) (leZ)))))) (⟨hI', hc'.symm.trans hF⟩) (by dsimp only; omega)
      · have hm : mt k = true := by simpa using hc
        clear hc
        rw [cyc_old hm] at hF
        have hn1 : cyTo p (i + 1) = (L ++ [l], mt) := by rw [cyTo_new (by rw [← hT]; exact hMi), ← hT]; simp only; rw [← hF]
        refine rE ?_
        refine rE ?_
        refine Again.step (Ghost.giveLast 5 3 (by rfl) rfl rfl (by rfl) (by rfl) (Nat.le_refl _)) ?_
        refine Again.next ((i + 1, L ++ [l], mt)) (gC [0, 1, 5] (LeAll.cons (by rfl) (by first | with_reducible exact Root.Le.refl _ | with_reducible exact le_dead | (exact le_row (by simp) (fun j hj => ap_rows L l _ j (by simpa using hj))) | exact byLeq) (by exact byCon) (LeAll.cons (by rfl) (by first | with_reducible exact Root.Le.refl _ | with_reducible exact le_dead | (exact le_row (by simp) (fun j hj => ap_rows L l _ j (by simpa using hj))) | exact byLeq) (by exact byCon) (LeAll.cons (by rfl) (by first | with_reducible exact Root.Le.refl _ | with_reducible exact le_dead | (exact le_row (by simp) (fun j hj => ap_rows L l _ j (by simpa using hj))) | exact byLeq) (by exact byCon) (leZ))))) (⟨hi, hn1.symm⟩) (by dsimp only; omega)
    · refine WP.cond (by rfl) (fun h => ?_) (fun h => WP.skip ?_)
      · refine WP.exit ?_
        have hn1 : cyTo p (i + 1) = (L, M) := by rw [cyTo_old (by rw [← hT]; exact hMi), ← hT]
        refine rE ?_
        refine Again.next ((i + 1, L, M)) (gC [0, 1, 2] (leC (leC (leC leZ)))) (⟨hi, hn1.symm⟩) (by dsimp only; omega)
      · have h : M i = false := h; rw [hMi] at h; cases h
  · have hi : i = n := by have := of_decide_eq_false hc; omega
    subst hi
    have hc' : cycs p i = L := by unfold cycs; rw [← hT]
    rw [hc']
    refine rS ?_
    exact WP.ret (Ends.new [2] (by rfl) (by exact byObl) (leC leZ) rfl rfl (rfl) (sc_sl rfl))
theorem Perm.then {N : Nat} {p q : Nat → Nat} (hp : Perm N p) (hq : Perm N q) : ∀ i, i < N → fillF (fun i => q (p i)) N i < N := fun i hi => by
  unfold fillF; rw [if_pos hi]; exact hq.lt _ (hp.lt _ hi)
def renTo (p b : Nat → Nat) : Nat → Nat → Nat
  | 0 => fun _ => 0
  | k + 1 => up (renTo p b k) (p k) (p (b k))
theorem rename_fn (N : Nat) (b w p : Nat → Nat) (hN : N ≤ 16) (hb : ∀ i, i < N → b i < 16) (hw : ∀ i, i < N → w i < 16) (hp : ∀ i, i < N → p i < 16) : FnP Try.prog 32 [ds_ N b w, pl p] (ds_ N (renTo p b N) (renTo p w N)) := by
  refine FnS.into T tok Try.func32 (by rfl) rfl rfl rfl (by simp) ?_
  refine rS ?_
  refine rS ?_
  refine WP.seq ?_
  refine rS ?_
  refine WP.block ?_
  refine WP.loopH (⟨fun k : Nat => k ≤ N, fun k => [(2, .p 0 [] 0), (3, .p 1 [] 0), (4, .p 2 [] 0), (5, .p 3 [] 0), (11, .i .i64 N), (12, .i .i64 k)], fun k => [.var (ds_ N b w), .var (pl p), .var (ds_ 0 (fun _ => 0) (fun _ => 0)), .var (ds_ N (renTo p b k) (renTo p w k))], fun k => N - k⟩) (0) (Nat.zero_le _) (gC [0, 1, 2, 3] (leC (leC (leC (leC leZ))))) ?_
  intro k hk
  dsimp only at hk
  dsimp only [Hd.at]
  refine rS ?_
  refine WP.seq ?_
  refine WP.cond (by rfl) (fun hc => WP.skip ?_) (fun hc => WP.exit ?_)
  · have hk : k < N := by have := of_decide_eq_true hc; omega
    have hbk := hb k hk
    have hwk := hw k hk
    have hpk := hp k hk
    refine WP.seq (WP.block ?_)
    refine rS ?_
    refine WP.seq ?_
    refine WP.dt (T := T) 11 0 ?_
    refine HW.run false 11 tok (by rfl) (by exact byObl) ?_
    refine HW.fin tok (by kernel_rfl) 11 0 (by rfl) (by kernel_rfl) (by kernel_rfl) (by kernel_rfl) (by rfl) (by rfl) rfl rfl ?_
    refine rF ?_
    refine WP.mem (by simp only [upd, pl, dsf, cast1, Int.toNat_natCast, fup_u8, fup_b, fup_i64, dsf_up0, dsf_up1, dsf_up2]; rfl) ?_
    refine WP.dt (T := T) 11 0 ?_
    refine HW.run false 11 tok (by rfl) (by exact byObl) ?_
    refine HW.fin tok (by kernel_rfl) 11 0 (by rfl) (by kernel_rfl) (by kernel_rfl) (by kernel_rfl) (by rfl) (by rfl) rfl rfl ?_
    refine rF ?_
    refine rE ?_
    refine Again.next (k + 1) (gC [0, 1, 2, 3] (leC (leC (leC (leC leZ))))) (hk) (by dsimp only; omega)
  · have hk : k = N := by have := of_decide_eq_false hc; omega
    subst hk
    refine rS ?_
    exact WP.ret (Ends.val (by rfl) (by exact byObl) (by rfl) (by exact sc_ds _ _ _ _))
theorem l02Rename_fn (N : Nat) (b w p : Nat → Nat) (hN : N ≤ 16) (hb : ∀ i, i < N → b i < 16) (hw : ∀ i, i < N → w i < 16) (hp : ∀ i, i < N → p i < 16) : FnP Try.prog 36 [ds_ N b w, pl p] (ds_ N (renTo p b N) (renTo p w N)) := by
  refine FnS.into T tok Try.func36 (by rfl) rfl rfl rfl (by simp) ?_
  refine rS ?_
  refine rS ?_
  refine WP.seq ?_
  refine rS ?_
  refine WP.block ?_
  refine WP.loopH (⟨fun k : Nat => k ≤ N, fun k => [(2, .p 0 [] 0), (3, .p 1 [] 0), (4, .p 2 [] 0), (5, .p 3 [] 0), (6, .i .i64 k)], fun k => [.var (ds_ N b w), .var (pl p), .var (ds_ 0 (fun _ => 0) (fun _ => 0)), .var (ds_ N (renTo p b k) (renTo p w k))], fun k => N - k⟩) (0) (Nat.zero_le _) (gC [0, 1, 2, 3] (leC (leC (leC (leC leZ))))) ?_
  intro k hk
  dsimp only at hk
  dsimp only [Hd.at]
  refine WP.seq ?_
  refine rS ?_
  refine WP.cond (by rfl) (fun hc => WP.skip ?_) (fun hc => WP.exit ?_)
  · have hk : k < N := by have := of_decide_eq_true hc; omega
    have hbk := hb k hk
    have hwk := hw k hk
    have hpk := hp k hk
    refine WP.seq (WP.block ?_)
    refine WP.seq ?_
    refine WP.dt (T := T) 11 0 ?_
    refine HW.run false 11 tok (by rfl) (by exact byObl) ?_
    refine HW.fin tok (by kernel_rfl) 11 0 (by rfl) (by kernel_rfl) (by kernel_rfl) (by kernel_rfl) (by rfl) (by rfl) rfl rfl ?_
    refine rF ?_
    refine WP.mem (by simp only [upd, pl, dsf, cast1, Int.toNat_natCast, fup_u8, fup_b, fup_i64, dsf_up0, dsf_up1, dsf_up2]; rfl) ?_
    refine WP.dt (T := T) 11 0 ?_
    refine HW.run false 11 tok (by rfl) (by exact byObl) ?_
    refine HW.fin tok (by kernel_rfl) 11 0 (by rfl) (by kernel_rfl) (by kernel_rfl) (by kernel_rfl) (by rfl) (by rfl) rfl rfl ?_
    refine rF ?_
    refine rE ?_
    refine Again.next (k + 1) (gC [0, 1, 2, 3] (leC (leC (leC (leC leZ))))) (hk) (by dsimp only; omega)
  · have hk : k = N := by have := of_decide_eq_false hc; omega
    subst hk
    refine rS ?_
    exact WP.ret (Ends.val (by rfl) (by exact byObl) (by rfl) (by exact sc_ds _ _ _ _))
theorem Perm.lt16 {N : Nat} {p : Nat → Nat} (h : Perm N p) (hN : N ≤ 16) : ∀ i, i < N → p i < 16 := fun i hi => Nat.lt_of_lt_of_le (h.lt i hi) hN
end Go.Proofs.Ythjnmlpibafbnaa

namespace Go.Proofs.Ythjnmlpibafbnaa.DM
open Go.RowKit
set_option linter.unusedVariables false
set_option linter.unusedSimpArgs false
section
variable {P : Program} {T : TyEnv} {N K : Nat} {Q : Exit → St → Prop} {ops : Array Oper} {n : Nat}
def TKE (P : Program) (o : Oper) (fr : Nat → Dat) (m : List Root) (G : Dat → List Root → Prop) : Prop :=
  ∀ (N : Nat) (ρ : Rho) (a : Act) (w : World), Frm m.length ρ N fr a.tmps → Rep ρ m w → ∀ (Kc : Act → World → Prop) (Q' : Exit → Act → World → Prop),
    (∀ ρ' u w' v m', G v m' → Holds m'.length ρ' v u → Rep ρ' m' w' → Tr ρ m w ρ' m' w' → Kc (a.put o.dst u) w') → o.wp P a w Kc Q'
theorem TKE.of {o : Oper} {fr : Nat → Dat} {m m' : List Root} {v : Dat} (h : TK P o fr m v m') : TKE P o fr m fun x y => x = v ∧ y = m' := by
  intro N ρ a w hf hr Kc Q' hK
  exact h N ρ a w hf hr Kc Q' fun ρ' u w' h1 h2 h3 => hK ρ' u w' v m' ⟨rfl, rfl⟩ h1 h2 h3
theorem TKE.call {dst : Tmp} {args : List Operand} {tys : Array TypeId} {t : TypeId} {pos : String} {after : Array Edge} {gg : Option (Nat × Bool)} {f : FuncId} {xs : List Dat} {fr : Nat → Dat} {m m0 : List Root} {Qf G : Dat → List Root → Prop} (ts : List Nat) (h : FnS P f xs m0 Qf)
    (hl : LeAll 0 m ts m0) (hk : sameKind m ts m0 = true) (hdi : distinct ts = true) (hx : ArgsR (tauOf ts) fr xs args) (hsc : ∀ x ∈ xs, Sc m0.length x)
    (hc : ∀ r m1, Qf r m1 → AllC0 m1 ∧ ∃ r', renD (invT ts m.length) r r' ∧ Sc (putBack m ts m0 m1).length r' ∧ G r' (putBack m ts m0 m1)) :
    TKE P { dst := some dst, op := .call { callee := .value (.func f), args := args.toArray, argTypes := tys }, type := t, pos := pos, after := after, guard := gg } fr m G := by
  intro N ρ a w hfr hrep Kc Q' hK
  obtain ⟨h1, h2⟩ := hx.eval hfr
  have h0 : a.eval (.func f) = .func (.func f) #[] #[] := rfl
  unfold Oper.wp
  rw [call_run rfl h0 (FnS.enter h)]
  simp only [Oper.upon]
  rw [show args.toArray.map a.eval = (xs.map (enc fun r => ρ (tauOf ts r))).toArray by rw [← h1]; simp]
  refine (FnS.calls h _ w (hrep.taken (Taken.view ts hl (by rw [hdi]; simp))) (fun x hx => ⟨hsc x hx, h2 x hx⟩)).mono ?_
  rintro e w' ⟨r, ρ1, m1', rfl, h3, h4, h5, h6, h7⟩
  obtain ⟨c1, r', c2, c3, c4⟩ := hc r m1' h7
  obtain ⟨g1, g2, g3⟩ := hrep.call ts hl (.inl hk) hdi h5 h6 c1.get
  refine hK _ _ w' r' _ c4 (.inr ⟨?_, c3, renD_ok' c2 h4⟩) g1 g2
  rw [renD_enc c2]
  exact (enc_congr (n := m1'.length) (fun j hj => g3 j hj) r h3).symm
def WAE2 (P : Program) (N K : Nat) (ops : Array Oper) (Q : Exit → St → Prop) (n fuel : Nat) (listed : Array Bool) (fr : Nat → Dat) (m : List Root) (i : Nat) : Prop :=
  ∃ o G, ops[i]? = some o ∧ gd ops o fr = some true ∧ dstOK N o.dst = true ∧ (MKE P o fr m G ∨ (n ≤ i ∧ TKE P o fr m G)) ∧ ∀ v m', G v m' → WA P N K ops Q n fuel (listed.setIfInBounds i true) ⟨putO fr o.dst v, m'⟩
theorem WA.allTE {fuel : Nat} {listed : Array Bool} {fr : Nat → Dat} {m : List Root} (rs : List Nat) (hr : Region.ready .any ops listed = rs) (hne : rs ≠ []) (h : ∀ i ∈ rs, WAE2 P N K ops Q n fuel listed fr m i) : WA P N K ops Q n (fuel + 1) listed ⟨fr, m⟩ := by
  intro hns hclo ρ a w ⟨hfr, hdf, hrep, hK⟩
  refine ⟨fun h0 => absurd (hr ▸ h0) hne, fun i hi => ?_⟩
  obtain ⟨o, G, ho, hg, hd, hmk, k⟩ := h i (hr ▸ hi)
  unfold wpOp
  simp only [ho]
  rw [if_pos (gd_wanted hg hfr)]
  have go : ∀ ρ' u w' v m', G v m' → Holds m'.length ρ' v u → Rep ρ' m' w' → Tr ρ m w ρ' m' w' → wpAnyS P ops (PostA N K ρ ⟨fr, m⟩ w Q) n fuel (listed.setIfInBounds i true) (a.put o.dst u) w' := fun ρ' u w' v m' hG hu hr' htr => by
    have hreg' := k v m' hG hns (hclo.ready hi) ρ' (a.put o.dst u) w' ⟨(hfr.tr htr).putO hd hu, by rw [put_defers]; exact hdf, hr', Nat.le_trans hK htr.len⟩
    exact wpAnyS_mono (PostA.tr (s := ⟨fr, m⟩) (s1 := ⟨putO fr o.dst v, m'⟩) (htr.toK hK)) _ _ _ _ hreg'
  rcases hmk with hmk | ⟨hn, hmk⟩
  · exact .inl (hmk N ρ a w hfr hrep _ _ fun ρ' u w' v m' hG hu hr' htr hb => ⟨fun _ => hb, go ρ' u w' v m' hG hu hr' htr⟩)
  · exact .inl (hmk N ρ a w hfr hrep _ _ fun ρ' u w' v m' hG hu hr' htr => ⟨fun h => absurd h (Nat.not_lt.2 hn), go ρ' u w' v m' hG hu hr' htr⟩)
theorem WA.allTE1 {fuel : Nat} {listed : Array Bool} {fr : Nat → Dat} {m : List Root} (i : Nat) (hr : Region.ready .any ops listed = [i]) (h : WAE2 P N K ops Q n fuel listed fr m i) : WA P N K ops Q n (fuel + 1) listed ⟨fr, m⟩ :=
  WA.allTE [i] hr (by simp) fun j hj => by rw [List.mem_singleton.1 hj]; exact h
theorem WA.allTE2 {fuel : Nat} {listed : Array Bool} {fr : Nat → Dat} {m : List Root} (i j : Nat) (hr : Region.ready .any ops listed = [i, j]) (h : WAE2 P N K ops Q n fuel listed fr m i) (h2 : WAE2 P N K ops Q n fuel listed fr m j) : WA P N K ops Q n (fuel + 1) listed ⟨fr, m⟩ :=
  WA.allTE [i, j] hr (by simp) fun k hk => by
    rcases List.mem_cons.1 hk with rfl | hk
    · exact h
    · rw [List.mem_singleton.1 hk]; exact h2
theorem WA.allTE3 {fuel : Nat} {listed : Array Bool} {fr : Nat → Dat} {m : List Root} (i j l : Nat) (hr : Region.ready .any ops listed = [i, j, l]) (h : WAE2 P N K ops Q n fuel listed fr m i) (h2 : WAE2 P N K ops Q n fuel listed fr m j) (h3 : WAE2 P N K ops Q n fuel listed fr m l) : WA P N K ops Q n (fuel + 1) listed ⟨fr, m⟩ :=
  WA.allTE [i, j, l] hr (by simp) fun k hk => by
    rcases List.mem_cons.1 hk with rfl | hk
    · exact h
    · rcases List.mem_cons.1 hk with rfl | hk
      · exact h2
      · rw [List.mem_singleton.1 hk]; exact h3
theorem WAE2.q (hT : TOK P T) {fuel i : Nat} {listed : Array Bool} {fr : Nat → Dat} {m m' : List Root} {o : Oper} {v : Dat} {ps : List Prop} (ho : ops[i]? = some o) (hq : isQ o.op = true) (h : evalOp T false o.op fr m = some (ps, v, m')) (hg : gd ops o fr = some true) (hd : dstOK N o.dst = true) (hp : AllP ps)
    (k : WA P N K ops Q n fuel (listed.setIfInBounds i true) ⟨putO fr o.dst v, m'⟩) : WAE2 P N K ops Q n fuel listed fr m i :=
  ⟨o, _, ho, hg, hd, .inl (MKE.of (MK.q (evalOp_q hT hq h hp))), fun _ _ ⟨e1, e2⟩ => by subst e1; subst e2; exact k⟩
theorem WAE2.t (hT : TOK P T) {fuel i : Nat} {listed : Array Bool} {fr : Nat → Dat} {m m' : List Root} {o : Oper} {v : Dat} {ps : List Prop} (hn : n ≤ i) (ho : ops[i]? = some o) (h : evalOp T false o.op fr m = some (ps, v, m')) (hg : gd ops o fr = some true) (hd : dstOK N o.dst = true) (hp : AllP ps)
    (k : WA P N K ops Q n fuel (listed.setIfInBounds i true) ⟨putO fr o.dst v, m'⟩) : WAE2 P N K ops Q n fuel listed fr m i :=
  ⟨o, _, ho, hg, hd, .inr ⟨hn, TKE.of (TK.of hT h hp)⟩, fun _ _ ⟨e1, e2⟩ => by subst e1; subst e2; exact k⟩
end
end Go.Proofs.Ythjnmlpibafbnaa.DM
