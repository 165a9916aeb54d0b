import Derived.Test.YthjnmlpibafbnaaX42
import Derived.Test.YthjnmlpibafbnaaX113
namespace Go.Proofs.Ythjnmlpibafbnaa
open Go.RowKit DM
set_option linter.unusedSimpArgs false
set_option linter.unusedVariables false
set_option maxRecDepth 100000
set_option maxHeartbeats 1000000
theorem specProductAt_fn (n : Int) (b w : Nat → Nat) (n' : Int) (b' w' : Nat → Nat) (x y : Int) (hb : ∀ i, b i < 256) (hw : ∀ i, w i < 256) (hb' : ∀ i, b' i < 256) (hw' : ∀ i, w' i < 256) : FnP Try.prog 15 [ds_ n b w, ds_ n' b' w', .i .i64 x, .i .i64 y] (paR n b w n' b' w' x y) := by
  have hbo := l02Both_fn n n' b w b' w' hb hw hb' hw'
  refine FnS.into T tok Try.func15 (by rfl) rfl rfl rfl (by simp) ?_
  refine rS ?_
  cases hc : bothB n b w n' b' w'
  · have e : paR n b w n' b' w' x y = t2 (ds_ 0 (fun _ => 0) (fun _ => 0)) (.i .i64 1) := by unfold paR; unfold bothB at hc; rw [hc]; rfl
    rw [hc] at hbo
    change FnP _ _ _ (.i .i64 1) at hbo
    refine WP.rw ?_
    refine rU 2 ?_
    refine cA (hbo) ?_
    refine rF ?_
    refine WP.seq ?_
    refine WP.rw ?_
    refine rU 3 ?_
    iterate 14 refine WPL.skipU (by rfl) (by rfl) ?_
    refine rF ?_
    refine WP.cond (by rfl) (fun h => ?_) (fun h => ?_)
    · cases h
    refine WP.skip ?_
    refine WP.seq ?_
    refine rS ?_
    refine WP.cond (by rfl) (fun h => ?_) (fun h => ?_)
    · refine rS ?_
      rw [e]
      exact WP.ret (Ends.val (by rfl) (by exact byObl) (by exact congrArg (t2 · _) (dsf_of rfl rfl rfl fun _ => rfl)) (by exact sc_t2 (sc_ds _ _ _ _) trivial))
    · simp at h
  rw [hc] at hbo
  change FnP _ _ _ (.i .i64 0) at hbo
  unfold bothB at hc
  rw [Bool.and_eq_true] at hc
  obtain ⟨hc, hc'⟩ := hc
  obtain ⟨N, rfl, hD⟩ := des_of_B hc
  obtain ⟨M, rfl, hE⟩ := des_of_B hc'
  have hN := hD.le
  have hM := hE.le
  refine WP.rw ?_
  refine rU 2 ?_
  refine cA (hbo) ?_
  refine rF ?_
  refine WP.seq ?_
  refine WP.rw ?_
  refine rU 7 ?_
  refine cA (l01In_fn x 0 (N - 1)) ?_
  have ex : (decide ((0 : Int) ≤ x) && decide (x ≤ (N : Int) - 1)) = (decide (0 ≤ x) && decide (x < N)) := by
    congr 1
    by_cases h : x < (N : Int)
    · rw [decide_eq_true h, decide_eq_true (by omega)]
    · rw [decide_eq_false h, decide_eq_false (by omega)]
  have ey : (decide ((0 : Int) ≤ y) && decide (y ≤ (M : Int) - 1)) = (decide (0 ≤ y) && decide (y < M)) := by
    congr 1
    by_cases h : y < (M : Int)
    · rw [decide_eq_true h, decide_eq_true (by omega)]
    · rw [decide_eq_false h, decide_eq_false (by omega)]
  rw [ex]
  have bad : ∀ {Pq : Prop}, Pq → Pq := id
  cases hx : (decide (0 ≤ x) && decide (x < N))
  · have e : paR N b w M b' w' x y = t2 (ds_ 0 (fun _ => 0) (fun _ => 0)) (.i .i64 2) := by unfold paR; rw [hc, hc', hx]; rfl
    refine rF ?_
    refine WP.cond (by rfl) (fun h => ?_) (fun h => ?_)
    · refine rE ?_
      refine WP.seq ?_
      refine rS ?_
      refine WP.cond (by rfl) (fun h2 => ?_) (fun h2 => ?_)
      · refine rS ?_
        rw [e]
        exact WP.ret (Ends.val (by rfl) (by exact byObl) (by exact congrArg (t2 · _) (dsf_of rfl rfl rfl fun _ => rfl)) (by exact sc_t2 (sc_ds _ _ _ _) trivial))
      · simp at h2
    · simp at h
  refine rU 6 ?_
  refine cA (l01In_fn y 0 (M - 1)) ?_
  rw [ey]
  cases hy : (decide (0 ≤ y) && decide (y < M))
  · have e : paR N b w M b' w' x y = t2 (ds_ 0 (fun _ => 0) (fun _ => 0)) (.i .i64 2) := by unfold paR; rw [hc, hc', hx, hy]; rfl
    refine rF ?_
    refine WP.cond (by rfl) (fun h => ?_) (fun h => ?_)
    · refine rE ?_
      refine WP.seq ?_
      refine rS ?_
      refine WP.cond (by rfl) (fun h2 => ?_) (fun h2 => ?_)
      · refine rS ?_
        rw [e]
        exact WP.ret (Ends.val (by rfl) (by exact byObl) (by exact congrArg (t2 · _) (dsf_of rfl rfl rfl fun _ => rfl)) (by exact sc_t2 (sc_ds _ _ _ _) trivial))
      · simp at h2
    · simp at h
  refine rF ?_
  refine WP.cond (by rfl) (fun h => ?_) (fun h => ?_)
  · simp at h
  clear h
  refine WP.skip ?_
  refine WP.seq ?_
  refine rS ?_
  refine WP.cond (by rfl) (fun h => ?_) (fun h => ?_)
  · simp at h
  clear h
  refine WP.skip ?_
  simp only [Bool.and_eq_true, decide_eq_true_eq] at hx hy
  obtain ⟨X, rfl⟩ : ∃ X : Nat, x = X := ⟨x.toNat, by omega⟩
  obtain ⟨Y, rfl⟩ : ∃ Y : Nat, y = Y := ⟨y.toNat, by omega⟩
  have hX : X < N := by omega
  have hY : Y < M := by omega
  have hpf := l02Pairs_fn N M b w b' w' (X, Y) hN hM ⟨hX, hY⟩ hD.pb.lt hD.pw.lt hE.pb.lt hE.pw.lt
  obtain ⟨hI, hz, hcl⟩ := prQ_ok hN hM (f := stP b b') (g := stP w w') (z := (X, Y)) (fun z hz => ⟨hD.pb.lt _ hz.1, hE.pb.lt _ hz.2⟩) (fun z hz => ⟨hD.pw.lt _ hz.1, hE.pw.lt _ hz.2⟩) ⟨hX, hY⟩
  have e : paR N b w M b' w' X Y = bif decide (16 < (prQ (stP b b') (stP w w') (X, Y)).length) then t2 (ds_ 0 (fun _ => 0) (fun _ => 0)) (.i .i64 3) else t2 (ds_ (prQ (stP b b') (stP w w') (X, Y)).length (stT (prQ (stP b b') (stP w w') (X, Y)) b b' (prQ (stP b b') (stP w w') (X, Y)).length) (stT (prQ (stP b b') (stP w w') (X, Y)) w w' (prQ (stP b b') (stP w w') (X, Y)).length)) (.i .i64 0) := by
    unfold paR
    rw [hc, hc', show (decide ((0 : Int) ≤ X) && decide ((X : Int) < N)) = true from by simp; omega, show (decide ((0 : Int) ≤ Y) && decide ((Y : Int) < M)) = true from by simp; omega]
    rfl
  have hQl := hI.le hN hM
  generalize prQ (stP b b') (stP w w') (X, Y) = Q at *
  refine WP.rw ?_
  refine rU 6 ?_
  refine cN [] (t2 (.sl 3 0 Q.length 2) (gridD (nmV Q))) (hpf) leZ (ren_t2 rfl ⟨rfl, sc_grid _ _⟩) ?_
  refine rF ?_
  refine WP.seq ?_
  refine rS ?_
  cases hq : decide (16 < Q.length)
  · have hq16 : Q.length ≤ 16 := by have := of_decide_eq_false hq; omega
    rw [hq] at e
    refine WP.cond (by rfl) (fun h => ?_) (fun h => ?_)
    · have h := of_decide_eq_true h
      omega
    clear h
    refine WP.skip ?_
    refine rS ?_
    refine WP.seq ?_
    refine rS ?_
    refine WP.block ?_
    refine WP.loopH (⟨fun k : Nat => k ≤ Q.length, fun k => [(4, .p 0 [] 0), (5, .p 1 [] 0), (8, .p 2 [] 0), (9, .i .i64 0), (11, .sl 3 0 Q.length 2), (12, .p 4 [] 0), (13, .p 5 [] 0), (14, .i .i64 (k : Int))], fun k => [.var (ds_ N b w), .var (ds_ M b' w'), .var (ds_ 0 (fun _ => 0) (fun _ => 0)), .ro Q.length 2 (prUF Q), .var (gridD (nmV Q)), .var (ds_ Q.length (stT Q b b' k) (stT Q w w' k))], fun k => Q.length - k⟩) (0) (Nat.zero_le _) (gC [0, 1, 2, 3, 4, 5] (leC (leC (leC (leC (leC (leC leZ))))))) ?_
    intro k hk
    dsimp only at hk
    dsimp only [Hd.at]
    refine WP.seq ?_
    refine rS ?_
    refine WP.cond (by rfl) (fun hc => WP.skip ?_) (fun hc => WP.exit ?_)
    · have hk : k < Q.length := by have := of_decide_eq_true hc; omega
      clear hc
      have hmem : Q.getD k (0, 0) ∈ Q := by
        rw [List.getD_eq_getElem?_getD, List.getElem?_eq_getElem hk]; exact List.getElem_mem hk
      obtain ⟨ha, hc⟩ := hcl _ hmem
      have hal := ixP_lt ha
      have hcl' := ixP_lt hc
      obtain ⟨hx1, hx2⟩ := hI.get hk
      have hA1 : b (Q.getD k (0, 0)).1 < 16 := Nat.lt_of_lt_of_le (hD.pb.lt _ hx1) hN
      have hA2 : b' (Q.getD k (0, 0)).2 < 16 := Nat.lt_of_lt_of_le (hE.pb.lt _ hx2) hM
      have hC1 : w (Q.getD k (0, 0)).1 < 16 := Nat.lt_of_lt_of_le (hD.pw.lt _ hx1) hN
      have hC2 : w' (Q.getD k (0, 0)).2 < 16 := Nat.lt_of_lt_of_le (hE.pw.lt _ hx2) hM
      have hx16 : (Q.getD k (0, 0)).1 < 16 ∧ (Q.getD k (0, 0)).2 < 16 := ⟨by omega, by omega⟩
      have hva : nmV Q (b (Q.getD k (0, 0)).1) (b' (Q.getD k (0, 0)).2) = ((ixP Q (stP b b' (Q.getD k (0, 0))) : Nat) : Int) := nmV_ix ha
      have hvc : nmV Q (w (Q.getD k (0, 0)).1) (w' (Q.getD k (0, 0)).2) = ((ixP Q (stP w w' (Q.getD k (0, 0))) : Nat) : Int) := nmV_ix hc
      refine WP.seq (WP.block ?_)
      refine rS ?_
      refine WP.seq ?_
      refine WP.da (by kernel_rfl) 17 (by kernel_rfl) ?_
      refine WA.takes T false tok [0, 1, 2, 3, 4, 5] (f' := 12) (by kernel_rfl) (by rfl) (by rfl) (by rfl) (by exact byObl) (by rfl) (by rfl) ?_
      refine WA.takes T false tok [6, 7, 8, 9, 10] (f' := 7) (by kernel_rfl) (by rfl) (by rfl) (by rfl) (by exact byObl) (by rfl) (by rfl) ?_
      refine WA.takes T false tok [11, 12, 13] (f' := 4) (by kernel_rfl) (by rfl) (by rfl) (by rfl) (by exact byObl) (by rfl) (by rfl) ?_
      rw [show nmV Q (((b (((Q.getD (addrAt 0 ((k : Nat) : Int).toNat) (0, 0)).1 : Nat) : Int).toNat : Nat) : Int)).toNat (((b' (((Q.getD (addrAt 0 ((k : Nat) : Int).toNat) (0, 0)).2 : Nat) : Int).toNat : Nat) : Int)).toNat = _ from hva]
      refine WA.takes T false tok [14, 15, 16] (f' := 1) (by kernel_rfl) (by rfl) (by rfl) (by rfl) (by exact byObl) (by rfl) (by rfl) ?_
      refine WA.tail (by rfl) (by rfl) (by kernel_rfl) ?_
      refine rF ?_
      refine noPan ?_
      refine WP.mem (by simp only [upd, pl, dsf, cast1, Int.toNat_natCast, fup_u8, fup_b, fup_i64, dsf_up0, dsf_up1, dsf_up2]; rfl) ?_
      refine WP.da (by kernel_rfl) 17 (by kernel_rfl) ?_
      refine WA.takes T false tok [0, 1, 2, 3, 4, 5] (f' := 12) (by kernel_rfl) (by rfl) (by rfl) (by rfl) (by exact byObl) (by rfl) (by rfl) ?_
      refine WA.takes T false tok [6, 7, 8, 9, 10] (f' := 7) (by kernel_rfl) (by rfl) (by rfl) (by rfl) (by exact byObl) (by rfl) (by rfl) ?_
      refine WA.takes T false tok [11, 12, 13] (f' := 4) (by kernel_rfl) (by rfl) (by rfl) (by rfl) (by exact byObl) (by rfl) (by rfl) ?_
      rw [show nmV Q (((w (((Q.getD (addrAt 0 k) (0, 0)).1 : Nat) : Int).toNat : Nat) : Int)).toNat (((w' (((Q.getD (addrAt 0 k) (0, 0)).2 : Nat) : Int).toNat : Nat) : Int)).toNat = _ from hvc]
      refine WA.takes T false tok [14, 15, 16] (f' := 1) (by kernel_rfl) (by rfl) (by rfl) (by rfl) (by exact byObl) (by rfl) (by rfl) ?_
      refine WA.tail (by rfl) (by rfl) (by kernel_rfl) ?_
      refine rF ?_
      refine noPan ?_
      refine rE ?_
      refine Again.next (k + 1) (gC [0, 1, 2, 3, 4, 5] (leC (leC (leC (leC (leC (leC leZ))))))) (hk) (by dsimp only; omega)
    · have hk : k = Q.length := by have := of_decide_eq_false hc; omega
      subst hk
      rw [e]
      refine rS ?_
      exact WP.ret (Ends.val (by rfl) (by exact byObl) (by rfl) (by exact sc_t2 (sc_ds _ _ _ _) trivial))
  · rw [hq] at e
    refine WP.cond (by rfl) (fun h => ?_) (fun h => ?_)
    · refine rS ?_
      rw [e]
      exact WP.ret (Ends.val (by rfl) (by exact byObl) (by exact congrArg (t2 · _) (dsf_of rfl rfl rfl fun _ => rfl)) (by exact sc_t2 (sc_ds _ _ _ _) trivial))
    · have h := of_decide_eq_false h
      have := of_decide_eq_true hq
      omega
end Go.Proofs.Ythjnmlpibafbnaa
