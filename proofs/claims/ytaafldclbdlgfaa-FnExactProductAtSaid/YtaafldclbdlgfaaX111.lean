import Derived.Test.YtaafldclbdlgfaaX110
import Derived.Test.YtaafldclbdlgfaaX12
import Derived.Test.YtaafldclbdlgfaaX14
/- ProductAt of the program. -/
namespace Go.Proofs.Ytaafldclbdlgfaa
open Go.RowKit DM
set_option linter.unusedSimpArgs false
set_option linter.unusedVariables false
set_option maxRecDepth 100000
set_option maxHeartbeats 1000000

/-- The product's permutation, as it is filled. -/
def stT (Q : List (Nat × Nat)) (p q : Nat → Nat) : Nat → Nat → Nat
  | 0 => fun _ => 0
  | k + 1 => up (stT Q p q k) k (ixP Q (stP p q (Q.getD k (0, 0))))

noncomputable def paR (n : Int) (b w : Nat → Nat) (n' : Int) (b' w' : Nat → Nat) (x y : Int) : Dat :=
  bif desB n b w && desB n' b' w' then
    bif (decide (0 ≤ x) && decide (x < n)) && (decide (0 ≤ y) && decide (y < n')) then
      bif decide (16 < (prQ (stP b b') (stP w w') (x.toNat, y.toNat)).length) then t2 (ds_ 0 (fun _ => 0) (fun _ => 0)) (.i .i64 3)
      else t2 (ds_ (prQ (stP b b') (stP w w') (x.toNat, y.toNat)).length (stT (prQ (stP b b') (stP w w') (x.toNat, y.toNat)) b b' (prQ (stP b b') (stP w w') (x.toNat, y.toNat)).length) (stT (prQ (stP b b') (stP w w') (x.toNat, y.toNat)) w w' (prQ (stP b b') (stP w w') (x.toNat, y.toNat)).length)) (.i .i64 0)
    else t2 (ds_ 0 (fun _ => 0) (fun _ => 0)) (.i .i64 2)
  else t2 (ds_ 0 (fun _ => 0) (fun _ => 0)) (.i .i64 1)
theorem paR_form (n : Int) (b w : Nat → Nat) (n' : Int) (b' w' : Nat → Nat) (x y : Int) : ∃ m f g c, paR n b w n' b' w' x y = t2 (ds_ m f g) (.i .i64 c) := by
  unfold paR
  cases desB n b w && desB n' b' w' with
  | false => exact ⟨_, _, _, _, rfl⟩
  | true =>
    cases (decide (0 ≤ x) && decide (x < n)) && (decide (0 ≤ y) && decide (y < n')) with
    | false => exact ⟨_, _, _, _, rfl⟩
    | true =>
      cases decide (16 < (prQ (stP b b') (stP w w') (x.toNat, y.toNat)).length) with
      | true => exact ⟨_, _, _, _, rfl⟩
      | false => exact ⟨_, _, _, _, rfl⟩

theorem implProductAt_fn (n : Int) (b w : Nat → Nat) (n' : Int) (b' w' : Nat → Nat) (x y : Int) (hb : ∀ i, b i < 256) (hw : ∀ i, w i < 256) (hb' : ∀ i, b' i < 256) (hw' : ∀ i, w' i < 256) : FnP Try.prog 10 [ds_ n b w, ds_ n' b' w', .i .i64 x, .i .i64 y] (paR n b w n' b' w' x y) := by
  have bad : ∀ c : Int, t2 (ds_ 0 (fun _ => 0) (fun _ => 0)) (.i .i64 c) = t2 (ds_ 0 (fun _ => 0) (fun _ => 0)) (.i .i64 c) := fun _ => rfl
  refine FnS.into T tok Try.func10 (by rfl) rfl rfl rfl (by simp) ?_
  refine WP.rs T false tok (by rfl) (by exact byObl) ?_
  refine WP.seq ?_
  cases hc : desB n b w
  · have e : paR n b w n' b' w' x y = t2 (ds_ 0 (fun _ => 0) (fun _ => 0)) (.i .i64 1) := by unfold paR; rw [hc]; rfl
    refine WP.block ?_
    refine WP.rw ?_
    refine WPL.run T false 1 tok (by rfl) (by exact byObl) ?_
    refine WPL.call (hc ▸ implIsDessin_fn n b w hb hw) (by rfl) (by rfl) (by rfl) (by simp [Sc, sc_pl, sc_ds, pl_ne, ds_ne]) ?_
    refine WPL.fin T false tok (by rfl) (by exact byObl) ?_
    refine WP.cond (by rfl) (fun h => ?_) (fun h => ?_)
    · refine WP.rs T false tok (by rfl) (by exact byObl) ?_
      rw [e]
      exact WP.ret (Ends.val (by rfl) (by exact byObl) (by exact congrArg (t2 · _) (dsf_of rfl rfl rfl fun _ => rfl)) (by exact sc_t2 (sc_ds _ _ _ _) trivial))
    · cases h
  cases hc' : desB n' b' w'
  · have e : paR n b w n' b' w' x y = t2 (ds_ 0 (fun _ => 0) (fun _ => 0)) (.i .i64 1) := by unfold paR; rw [hc, hc']; rfl
    refine WP.block ?_
    refine WP.rw ?_
    refine WPL.run T false 1 tok (by rfl) (by exact byObl) ?_
    refine WPL.call (hc ▸ implIsDessin_fn n b w hb hw) (by rfl) (by rfl) (by rfl) (by simp [Sc, sc_pl, sc_ds, pl_ne, ds_ne]) ?_
    refine WPL.run T false 3 tok (by rfl) (by exact byObl) ?_
    refine WPL.call (hc' ▸ implIsDessin_fn n' b' w' hb' hw') (by rfl) (by rfl) (by rfl) (by simp [Sc, sc_pl, sc_ds, pl_ne, ds_ne]) ?_
    refine WPL.fin T false tok (by rfl) (by exact byObl) ?_
    refine WP.cond (by rfl) (fun h => ?_) (fun h => ?_)
    · refine WP.rs T false tok (by rfl) (by exact byObl) ?_
      rw [e]
      exact WP.ret (Ends.val (by rfl) (by exact byObl) (by exact congrArg (t2 · _) (dsf_of rfl rfl rfl fun _ => rfl)) (by exact sc_t2 (sc_ds _ _ _ _) trivial))
    · cases h
  obtain ⟨N, rfl, hD⟩ := des_of_B hc
  obtain ⟨M, rfl, hE⟩ := des_of_B hc'
  refine WP.block ?_
  refine WP.rw ?_
  refine WPL.run T false 1 tok (by rfl) (by exact byObl) ?_
  refine WPL.call (hc ▸ implIsDessin_fn N b w hb hw) (by rfl) (by rfl) (by rfl) (by simp [Sc, sc_pl, sc_ds, pl_ne, ds_ne]) ?_
  refine WPL.run T false 3 tok (by rfl) (by exact byObl) ?_
  refine WPL.call (hc' ▸ implIsDessin_fn M b' w' hb' hw') (by rfl) (by rfl) (by rfl) (by simp [Sc, sc_pl, sc_ds, pl_ne, ds_ne]) ?_
  refine WPL.fin T false tok (by rfl) (by exact byObl) ?_
  refine WP.cond (by rfl) (fun h => ?_) (fun h => ?_)
  · cases h
  clear h
  refine WP.rw ?_
  refine WPL.run T false 3 tok (by rfl) (by exact byObl) ?_
  refine WPL.callR [3] (isDart1_fn N b w x) (by rfl) (LeAll.cons (by rfl) (by first | with_reducible exact Root.Le.refl _ | with_reducible exact le_dead | (exact le_frz (Nat.le_refl _) (fun j hj => by obtain rfl : j = 0 := (by omega); rfl)) | exact byLeq) (by exact byCon) (trivial)) (by exact byArgs) (by rfl) (by rfl) (by simp [Sc, sc_pl, sc_ds]) ?_
  cases hx : (decide (0 ≤ x) && decide (x < N))
  · have e : paR N b w M b' w' x y = t2 (ds_ 0 (fun _ => 0) (fun _ => 0)) (.i .i64 2) := by unfold paR; rw [hc, hc', hx]; rfl
    refine WPL.fin T false tok (by rfl) (by exact byObl) ?_
    refine WP.cond (by rfl) (fun h => ?_) (fun h => ?_)
    · refine WP.rs T false tok (by rfl) (by exact byObl) ?_
      rw [e]
      exact WP.ret (Ends.val (by rfl) (by exact byObl) (by exact congrArg (t2 · _) (dsf_of rfl rfl rfl fun _ => rfl)) (by exact sc_t2 (sc_ds _ _ _ _) trivial))
    · cases h
  refine WPL.run T false 5 tok (by rfl) (by exact byObl) ?_
  refine WPL.callR [4] (isDart1_fn M b' w' y) (by rfl) (LeAll.cons (by rfl) (by first | with_reducible exact Root.Le.refl _ | with_reducible exact le_dead | (exact le_frz (Nat.le_refl _) (fun j hj => by obtain rfl : j = 0 := (by omega); rfl)) | exact byLeq) (by exact byCon) (trivial)) (by exact byArgs) (by rfl) (by rfl) (by simp [Sc, sc_pl, sc_ds]) ?_
  cases hy : (decide (0 ≤ y) && decide (y < M))
  · have e : paR N b w M b' w' x y = t2 (ds_ 0 (fun _ => 0) (fun _ => 0)) (.i .i64 2) := by unfold paR; rw [hc, hc', hx, hy]; rfl
    refine WPL.fin T false tok (by rfl) (by exact byObl) ?_
    refine WP.cond (by rfl) (fun h => ?_) (fun h => ?_)
    · refine WP.rs T false tok (by rfl) (by exact byObl) ?_
      rw [e]
      exact WP.ret (Ends.val (by rfl) (by exact byObl) (by exact congrArg (t2 · _) (dsf_of rfl rfl rfl fun _ => rfl)) (by exact sc_t2 (sc_ds _ _ _ _) trivial))
    · cases h
  refine WPL.fin T false tok (by rfl) (by exact byObl) ?_
  refine WP.cond (by rfl) (fun h => ?_) (fun h => ?_)
  · cases h
  clear h
  refine WP.skip ?_
  simp only [Bool.and_eq_true, decide_eq_true_eq] at hx hy
  obtain ⟨X, rfl⟩ : ∃ X : Nat, x = X := ⟨x.toNat, by omega⟩
  obtain ⟨Y, rfl⟩ : ∃ Y : Nat, y = Y := ⟨y.toNat, by omega⟩
  have hX : X < N := by omega
  have hY : Y < M := by omega
  have hN := hD.le
  have hM := hE.le
  have hpf := pairsFrom_fn N M b w b' w' (X, Y) hN hM ⟨hX, hY⟩ hD.pb.lt hD.pw.lt hE.pb.lt hE.pw.lt
  obtain ⟨hI, hz, hcl⟩ := prQ_ok hN hM (f := stP b b') (g := stP w w') (z := (X, Y)) (fun z hz => ⟨hD.pb.lt _ hz.1, hE.pb.lt _ hz.2⟩) (fun z hz => ⟨hD.pw.lt _ hz.1, hE.pw.lt _ hz.2⟩) ⟨hX, hY⟩
  have e : paR N b w M b' w' X Y = bif decide (16 < (prQ (stP b b') (stP w w') (X, Y)).length) then t2 (ds_ 0 (fun _ => 0) (fun _ => 0)) (.i .i64 3) else t2 (ds_ (prQ (stP b b') (stP w w') (X, Y)).length (stT (prQ (stP b b') (stP w w') (X, Y)) b b' (prQ (stP b b') (stP w w') (X, Y)).length) (stT (prQ (stP b b') (stP w w') (X, Y)) w w' (prQ (stP b b') (stP w w') (X, Y)).length)) (.i .i64 0) := by
    unfold paR
    rw [hc, hc', show (decide ((0 : Int) ≤ X) && decide ((X : Int) < N)) = true from by simp; omega, show (decide ((0 : Int) ≤ Y) && decide ((Y : Int) < M)) = true from by simp; omega]
    rfl
  have hQl := hI.le hN hM
  generalize prQ (stP b b') (stP w w') (X, Y) = Q at *
  refine WP.rw ?_
  refine WPL.run T false 7 tok (by rfl) (by exact byObl) ?_
  refine WPL.callN [] (.sl 5 0 Q.length 2) (hpf) (trivial) (by rfl) (by rfl) (by exact byArgs) (by rfl) (by rfl) (by simp [Sc, sc_pl, sc_ds]; exact fun i _ => sc_prU _ _ i) (by exact byAllc) (rfl) (by exact bySc) rfl ?_
  refine WPL.fin T false tok (by rfl) (by exact byObl) ?_
  refine WP.seq ?_
  refine WP.rs T false tok (by rfl) (by exact byObl) ?_
  cases hq : decide (16 < Q.length)
  · have hq16 : Q.length ≤ 16 := by have := of_decide_eq_false hq; omega
    rw [hq] at e
    refine WP.cond (by rfl) (fun h => ?_) (fun h => ?_)
    · have h := of_decide_eq_true h
      omega
    clear h
    refine WP.skip ?_
    refine WP.rs T false tok (by rfl) (by exact byObl) ?_
    refine WP.seq ?_
    refine WP.rs T false tok (by rfl) (by exact byObl) ?_
    refine WP.block ?_
    refine WP.loopH (⟨fun k : Nat => k ≤ Q.length, fun k => [(4, .p 0 [] 0), (5, .p 1 [] 0), (8, .p 2 [] 0), (9, .i .i64 0), (10, .sl 3 0 Q.length 2), (11, .p 4 [] 0), (54, .sl 3 0 Q.length 2), (55, .i .i64 (Q.length : Int)), (56, .i .i64 (k : Int))], fun k => [.var (ds_ N b w), .var (ds_ M b' w'), .var (ds_ 0 (fun _ => 0) (fun _ => 0)), .ro Q.length 2 (prUF Q), .var (ds_ Q.length (stT Q b b' k) (stT Q w w' k))], fun k => Q.length - k⟩) (0) (Nat.zero_le _) (Ghost.cut (Nat.le_refl _) (tauOf [0, 1, 2, 5, 6]) _ _ (Taken.of [0, 1, 2, 5, 6] (LeAll.cons (by rfl) (by first | with_reducible exact Root.Le.refl _ | with_reducible exact le_dead | (exact le_var (dsf_of rfl rfl rfl fun _ => rfl).symm) | exact byLeq) (by exact byCon) (LeAll.cons (by rfl) (by first | with_reducible exact Root.Le.refl _ | with_reducible exact le_dead | (exact le_var (dsf_of rfl rfl rfl fun _ => rfl).symm) | exact byLeq) (by exact byCon) (LeAll.cons (by rfl) (by first | with_reducible exact Root.Le.refl _ | with_reducible exact le_dead | (exact le_var (dsf_of rfl rfl rfl fun _ => rfl).symm) | exact byLeq) (by exact byCon) (LeAll.cons (by rfl) (by first | with_reducible exact Root.Le.refl _ | with_reducible exact le_dead | (exact le_var (dsf_of rfl rfl rfl fun _ => rfl).symm) | exact byLeq) (by exact byCon) (LeAll.cons (by rfl) (by first | with_reducible exact Root.Le.refl _ | with_reducible exact le_dead | (exact le_var (dsf_of rfl rfl rfl fun _ => rfl).symm) | exact byLeq) (by exact byCon) (trivial)))))) rfl rfl) (by exact bySlots)) ?_
    intro k hk
    dsimp only at hk
    dsimp only [Hd.at]
    refine WP.rs T false tok (by rfl) (by exact byObl) ?_
    refine WP.seq ?_
    refine WP.cond (by rfl) (fun hc => WP.skip ?_) (fun hc => WP.exit ?_)
    · have hk : k < Q.length := by have := of_decide_eq_true hc; omega
      clear hc
      have hsp := stepPair_fn N M b w b' w' (Q.getD k (0, 0)) hN hM (hI.get hk)
      have hmem : Q.getD k (0, 0) ∈ Q := by
        rw [List.getD_eq_getElem?_getD, List.getElem?_eq_getElem hk]; exact List.getElem_mem hk
      obtain ⟨ha, hc⟩ := hcl _ hmem
      have hia := slicesIndex_fn Q (stP b b' (Q.getD k (0, 0))) hI.nodup ha (by omega)
      have hic := slicesIndex_fn Q (stP w w' (Q.getD k (0, 0))) hI.nodup hc (by omega)
      have hal := ixP_lt ha
      have hcl' := ixP_lt hc
      refine WP.seq (WP.block ?_)
      refine WP.rs T false tok (by rfl) (by exact byObl) ?_
      refine WP.rw ?_
      refine WPL.run T false 3 tok (by rfl) (by exact byObl) ?_
      refine WPL.call (hsp) (by rfl) (by rfl) (by rfl) (by simp [Sc, sc_pl, sc_ds, pl_ne, ds_ne]; exact fun i _ => sc_prU _ _ i) ?_
      refine WPL.fin T false tok (by rfl) (by exact byObl) ?_
      refine WP.rw ?_
      refine WPL.run T false 4 tok (by rfl) (by exact byObl) ?_
      refine WPL.callR [3] (hia) (by rfl) (LeAll.cons (by rfl) (by first | with_reducible exact Root.Le.refl _ | with_reducible exact le_dead | (skip; done) | exact byLeq) (by exact byCon) (trivial)) (by exact byArgs) (by rfl) (by rfl) (by simp [Sc, sc_pl, sc_ds]; exact fun i _ => sc_prU _ _ i) ?_
      refine WPL.fin T false tok (by rfl) (by exact byObl) ?_
      refine WP.mem (by simp only [upd, pl, dsf, cast1, Int.toNat_natCast, fup_u8, fup_b, fup_i64, dsf_up0, dsf_up1, dsf_up2]; rfl) ?_
      refine WP.region ?_
      refine WPL.run T false 4 tok (by rfl) (by exact byObl) ?_
      refine WPL.callR [3] (hic) (by rfl) (LeAll.cons (by rfl) (by first | with_reducible exact Root.Le.refl _ | with_reducible exact le_dead | (skip; done) | exact byLeq) (by exact byCon) (trivial)) (by exact byArgs) (by rfl) (by rfl) (by simp [Sc, sc_pl, sc_ds]; exact fun i _ => sc_prU _ _ i) ?_
      refine WPL.fin T false tok (by rfl) (by exact byObl) ?_
      refine WP.run T false tok (by rfl) (by exact byObl) ?_
      refine Again.next (k + 1) (Ghost.cut (Nat.le_refl _) (tauOf [0, 1, 2, 3, 4]) _ _ (Taken.of [0, 1, 2, 3, 4] (LeAll.cons (by rfl) (by first | with_reducible exact Root.Le.refl _ | with_reducible exact le_dead | (skip; done) | exact byLeq) (by exact byCon) (LeAll.cons (by rfl) (by first | with_reducible exact Root.Le.refl _ | with_reducible exact le_dead | (skip; done) | exact byLeq) (by exact byCon) (LeAll.cons (by rfl) (by first | with_reducible exact Root.Le.refl _ | with_reducible exact le_dead | (skip; done) | exact byLeq) (by exact byCon) (LeAll.cons (by rfl) (by first | with_reducible exact Root.Le.refl _ | with_reducible exact le_dead | (skip; done) | exact byLeq) (by exact byCon) (LeAll.cons (by rfl) (by first | with_reducible exact Root.Le.refl _ | with_reducible exact le_dead | (skip; done) | exact byLeq) (by exact byCon) (trivial)))))) rfl rfl) (by exact bySlots)) (hk) (by dsimp only; omega)
    · have hk : k = Q.length := by have := of_decide_eq_false hc; omega
      subst hk
      rw [e]
      refine WP.rs T false tok (by rfl) (by exact byObl) ?_
      exact WP.ret (Ends.val (by rfl) (by exact byObl) (by rfl) (by exact sc_t2 (sc_ds _ _ _ _) trivial))
  · rw [hq] at e
    refine WP.cond (by rfl) (fun h => ?_) (fun h => ?_)
    · refine WP.rs T false tok (by rfl) (by exact byObl) ?_
      rw [e]
      exact WP.ret (Ends.val (by rfl) (by exact byObl) (by exact congrArg (t2 · _) (dsf_of rfl rfl rfl fun _ => rfl)) (by exact sc_t2 (sc_ds _ _ _ _) trivial))
    · have h := of_decide_eq_false h
      have := of_decide_eq_true hq
      omega

end Go.Proofs.Ytaafldclbdlgfaa
