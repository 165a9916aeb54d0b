import Derived.Test.YtaafldclbdlgfaaL39
import Derived.Test.YtaafldclbdlgfaaX110
import Derived.Test.YtaafldclbdlgfaaX112
import Derived.Test.YtaafldclbdlgfaaX42
/- Sizes of products: the program's side. -/
namespace Go.Proofs.Ytaafldclbdlgfaa
open Go.RowKit DM
set_option linter.unusedSimpArgs false
set_option linter.unusedVariables false
set_option maxRecDepth 100000
set_option maxHeartbeats 1000000

/-- What ProductSizes returns. -/
noncomputable def szR (N M : Nat) (b w b' w' : Nat → Nat) : List Nat := srtN (szAll (prQ (stP b b') (stP w w')) M N).2
noncomputable def szT (n : Int) (b w : Nat → Nat) (n' : Int) (b' w' : Nat → Nat) : Dat × List Root :=
  bif bothB n b w n' b' w' then (t2 (.sl 0 0 (szR n.toNat n'.toNat b w b' w').length 1) (.i .i64 0), [.row 2 (szR n.toNat n'.toNat b w b' w').length 1 (numsF (szR n.toNat n'.toNat b w b' w'))]) else (t2 .ns (.i .i64 1), [])

theorem implProductSizes_fn (n : Int) (b w : Nat → Nat) (n' : Int) (b' w' : Nat → Nat) (hb : ∀ i, b i < 256) (hw : ∀ i, w i < 256) (hb' : ∀ i, b' i < 256) (hw' : ∀ i, w' i < 256) : FnS Try.prog 25 [ds_ n b w, ds_ n' b' w'] [] (fun r m' => r = (szT n b w n' b' w').1 ∧ m' = (szT n b w n' b' w').2) := by
  cases hc : desB n b w
  · have e : szT n b w n' b' w' = (t2 .ns (.i .i64 1), []) := by unfold szT bothB; rw [hc]; rfl
    rw [e]
    refine FnS.intoN T tok Try.func25 (by rfl) rfl rfl rfl (by simp) ?_
    refine WP.rs T false tok (by rfl) (by exact byObl) ?_
    refine WP.seq ?_
    refine WP.rw ?_
    refine WPL.run T false 1 tok (by rfl) (by exact byObl) ?_
    refine WPL.call (hc ▸ implIsDessin_fn n b w hb hw) (by rfl) (by rfl) (by rfl) (by simp [Sc, sc_pl, sc_ds, pl_ne, ds_ne]) ?_
    refine WPL.fin T false tok (by rfl) (by exact byObl) ?_
    refine WP.cond (by rfl) (fun h => ?_) (fun h => WP.skip ?_)
    · refine WP.rs T false tok (by rfl) (by exact byObl) ?_
      exact WP.ret (Ends.new [] (by rfl) (by exact byObl) (trivial) rfl rfl (ren_t2 ⟨rfl, trivial⟩ ⟨rfl, trivial⟩) (sc_t2 trivial trivial))
    · cases h
  cases hc' : desB n' b' w'
  · have e : szT n b w n' b' w' = (t2 .ns (.i .i64 1), []) := by unfold szT bothB; rw [hc, hc']; rfl
    rw [e]
    refine FnS.intoN T tok Try.func25 (by rfl) rfl rfl rfl (by simp) ?_
    refine WP.rs T false tok (by rfl) (by exact byObl) ?_
    refine WP.seq ?_
    refine WP.rw ?_
    refine WPL.run T false 1 tok (by rfl) (by exact byObl) ?_
    refine WPL.call (hc ▸ implIsDessin_fn n b w hb hw) (by rfl) (by rfl) (by rfl) (by simp [Sc, sc_pl, sc_ds, pl_ne, ds_ne]) ?_
    refine WPL.run T false 3 tok (by rfl) (by exact byObl) ?_
    refine WPL.call (hc' ▸ implIsDessin_fn n' b' w' hb' hw') (by rfl) (by rfl) (by rfl) (by simp [Sc, sc_pl, sc_ds, pl_ne, ds_ne]) ?_
    refine WPL.fin T false tok (by rfl) (by exact byObl) ?_
    refine WP.cond (by rfl) (fun h => ?_) (fun h => WP.skip ?_)
    · refine WP.rs T false tok (by rfl) (by exact byObl) ?_
      exact WP.ret (Ends.new [] (by rfl) (by exact byObl) (trivial) rfl rfl (ren_t2 ⟨rfl, trivial⟩ ⟨rfl, trivial⟩) (sc_t2 trivial trivial))
    · cases h
  obtain ⟨N, rfl, hD⟩ := des_of_B hc
  obtain ⟨M, rfl, hE⟩ := des_of_B hc'
  have hN := hD.le
  have hM := hE.le
  have e : szT N b w M b' w' = (t2 (.sl 0 0 (szR N M b w b' w').length 1) (.i .i64 0), [.row 2 (szR N M b w b' w').length 1 (numsF (szR N M b w b' w'))]) := by unfold szT bothB; rw [hc, hc']; rfl
  rw [e]
  unfold szR
  have hpf := fun z hz => pairsFrom_fn N M b w b' w' z hN hM hz hD.pb.lt hD.pw.lt hE.pb.lt hE.pw.lt
  have hql : ∀ z : Nat × Nat, z.1 < N ∧ z.2 < M → (prQ (stP b b') (stP w w') z).length ≤ 256 := fun z hz => (prQ_ok hN hM (f := stP b b') (g := stP w w') (z := z) (fun z hz => ⟨hD.pb.lt _ hz.1, hE.pb.lt _ hz.2⟩) (fun z hz => ⟨hD.pw.lt _ hz.1, hE.pw.lt _ hz.2⟩) hz).1.le hN hM
  have hqs : ∀ z : Nat × Nat, z.1 < N ∧ z.2 < M → ∀ k, k < (prQ (stP b b') (stP w w') z).length → ((prQ (stP b b') (stP w w') z).getD k (0, 0)).1 < N ∧ ((prQ (stP b b') (stP w w') z).getD k (0, 0)).2 < M := fun z hz k hk => (prQ_ok hN hM (f := stP b b') (g := stP w w') (z := z) (fun z hz => ⟨hD.pb.lt _ hz.1, hE.pb.lt _ hz.2⟩) (fun z hz => ⟨hD.pw.lt _ hz.1, hE.pw.lt _ hz.2⟩) hz).1.get hk
  generalize prQ (stP b b') (stP w w') = q at *
  refine FnS.intoN T tok Try.func25 (by rfl) rfl rfl rfl (by simp) ?_
  refine WP.rs T false tok (by rfl) (by exact byObl) ?_
  refine WP.seq ?_
  refine WP.rw ?_
  refine WPL.run T false 1 tok (by rfl) (by exact byObl) ?_
  refine WPL.call (hc ▸ implIsDessin_fn N b w hb hw) (by rfl) (by rfl) (by rfl) (by simp [Sc, sc_pl, sc_ds, pl_ne, ds_ne]) ?_
  refine WPL.run T false 3 tok (by rfl) (by exact byObl) ?_
  refine WPL.call (hc' ▸ implIsDessin_fn M b' w' hb' hw') (by rfl) (by rfl) (by rfl) (by simp [Sc, sc_pl, sc_ds, pl_ne, ds_ne]) ?_
  refine WPL.fin T false tok (by rfl) (by exact byObl) ?_
  refine WP.cond (by rfl) (fun h => ?_) (fun h => WP.skip ?_)
  · cases h
  clear h
  refine WP.rw ?_
  refine WPL.mkMap rfl (by rfl) (by rfl) ?_
  intro mb
  refine WPL.fin T false tok (by rfl) (by exact byObl) ?_
  refine WP.rs T false tok (by rfl) (by exact byObl) ?_
  refine WP.seq ?_
  refine WP.rs T false tok (by rfl) (by exact byObl) ?_
  refine WP.block ?_
  refine WP.loopH (⟨fun x : Nat => x ≤ N, fun x => [(2, .p 0 [] 0), (3, .p 1 [] 0), (6, .mv mb), (7, .sl 3 0 (szAll q M x).2.length 1), (25, .i .i64 (N : Int)), (26, .i .i64 (x : Int))], fun x => [.var (ds_ N b w), .var (ds_ M b' w'), .mp mb (entS kyP (szAll q M x).1), .row 2 (szAll q M x).2.length 1 (numsF (szAll q M x).2)], fun x => N - x⟩) (0) (Nat.zero_le _) (Ghost.cut (Nat.le_refl _) (tauOf [0, 1, 2, 3]) _ _ (Taken.of [0, 1, 2, 3] (LeAll.cons (by rfl) (by first | with_reducible exact Root.Le.refl _ | with_reducible exact le_dead | (first | exact le_mp rfl | exact le_row (Nat.le_refl _) (fun j hj => absurd hj (Nat.not_lt_zero _))) | exact byLeq) (by exact byCon) (LeAll.cons (by rfl) (by first | with_reducible exact Root.Le.refl _ | with_reducible exact le_dead | (first | exact le_mp rfl | exact le_row (Nat.le_refl _) (fun j hj => absurd hj (Nat.not_lt_zero _))) | exact byLeq) (by exact byCon) (LeAll.cons (by rfl) (by first | with_reducible exact Root.Le.refl _ | with_reducible exact le_dead | (first | exact le_mp rfl | exact le_row (Nat.le_refl _) (fun j hj => absurd hj (Nat.not_lt_zero _))) | exact byLeq) (by exact byCon) (LeAll.cons (by rfl) (by first | with_reducible exact Root.Le.refl _ | with_reducible exact le_dead | (first | exact le_mp rfl | exact le_row (Nat.le_refl _) (fun j hj => absurd hj (Nat.not_lt_zero _))) | exact byLeq) (by exact byCon) (trivial))))) rfl rfl) (by exact bySlots)) ?_
  intro x hx
  dsimp only at hx
  dsimp only [Hd.at]
  refine WP.rs T false tok (by rfl) (by exact byObl) ?_
  refine WP.seq ?_
  refine WP.cond (by rfl) (fun hc => WP.skip ?_) (fun hc => WP.exit ?_)
  · have hx : x < N := by have := of_decide_eq_true hc; omega
    clear hc
    refine WP.seq (WP.block ?_)
    refine WP.rs T false tok (by rfl) (by exact byObl) ?_
    refine WP.rs T false tok (by rfl) (by exact byObl) ?_
    refine WP.block ?_
    refine WP.loopH (⟨fun y : Nat => y ≤ M, fun y => [(2, .p 0 [] 0), (3, .p 1 [] 0), (6, .mv mb), (7, .sl 3 0 (szRow q x (szAll q M x) y).2.length 1), (8, .i .i64 (x : Int)), (25, .i .i64 (N : Int)), (26, .i .i64 (x : Int)), (30, .i .i64 (M : Int)), (31, .i .i64 (y : Int))], fun y => [.var (ds_ N b w), .var (ds_ M b' w'), .mp mb (entS kyP (szRow q x (szAll q M x) y).1), .row 2 (szRow q x (szAll q M x) y).2.length 1 (numsF (szRow q x (szAll q M x) y).2)], fun y => M - y⟩) (0) (Nat.zero_le _) (Ghost.cut (Nat.le_refl _) (tauOf [0, 1, 2, 3]) _ _ (Taken.of [0, 1, 2, 3] (LeAll.cons (by rfl) (by first | with_reducible exact Root.Le.refl _ | with_reducible exact le_dead | (first | exact le_mp rfl | exact le_row (Nat.le_refl _) (fun j hj => rfl)) | exact byLeq) (by exact byCon) (LeAll.cons (by rfl) (by first | with_reducible exact Root.Le.refl _ | with_reducible exact le_dead | (first | exact le_mp rfl | exact le_row (Nat.le_refl _) (fun j hj => rfl)) | exact byLeq) (by exact byCon) (LeAll.cons (by rfl) (by first | with_reducible exact Root.Le.refl _ | with_reducible exact le_dead | (first | exact le_mp rfl | exact le_row (Nat.le_refl _) (fun j hj => rfl)) | exact byLeq) (by exact byCon) (LeAll.cons (by rfl) (by first | with_reducible exact Root.Le.refl _ | with_reducible exact le_dead | (first | exact le_mp rfl | exact le_row (Nat.le_refl _) (fun j hj => rfl)) | exact byLeq) (by exact byCon) (trivial))))) rfl rfl) (by exact bySlots)) ?_
    intro y hy
    dsimp only at hy
    dsimp only [Hd.at]
    have hsl := sz_len256 q hM (show x < 16 by omega) hy
    refine WP.rs T false tok (by rfl) (by exact byObl) ?_
    refine WP.seq ?_
    refine WP.cond (by rfl) (fun hc => WP.skip ?_) (fun hc => WP.exit ?_)
    · have hy : y < M := by have := of_decide_eq_true hc; omega
      clear hc
      have hst : szRow q x (szAll q M x) (y + 1) = szSt q (szRow q x (szAll q M x) y) (x, y) := rfl
      have hpf := hpf (x, y) ⟨hx, hy⟩
      have hql := hql (x, y) ⟨hx, hy⟩
      have hqs := hqs (x, y) ⟨hx, hy⟩
      generalize szRow q x (szAll q M x) = F at *
      unfold szSt at hst
      generalize q (x, y) = Q at *
      have hx8 : x < 256 := by omega
      have hy8 : y < 256 := by omega
      have hsl' : (F y).2.length ≤ 256 := hsl
      refine WP.seq (WP.block ?_)
      refine WP.rs T false tok (by rfl) (by exact byObl) ?_
      refine WP.rs T false tok (by rfl) (by exact byObl) ?_
      refine WP.seq ?_
      refine WP.rw ?_
      refine WPL.run T false 2 tok (by rfl) (by exact byObl) ?_
      refine WPL.op (by rfl) (by rfl) (QOK.op (map_look (r := 2) (a := (x, y)) (L := (F y).1) tok rfl Try.underlying87 key_pair rfl rfl rfl rfl (by simp [kyP]) rfl)) ?_
      refine WPL.fin T false tok (by rfl) (by exact byObl) ?_
      by_cases hm : (x, y) ∈ (F y).1
      · rw [if_pos hm] at hst
        have hLen : (F (y + 1)).2.length = (F y).2.length := by rw [hst]
        refine WP.cond (by rfl) (fun h => ?_) (fun h => ?_)
        case refine_2 => simp [hm] at h
        refine WP.exit ?_
        refine WP.run T false tok (by rfl) (by exact byObl) ?_
        refine Again.next (y + 1) (Ghost.cut (Nat.le_refl _) (tauOf [0, 1, 2, 3]) _ _ (Taken.of [0, 1, 2, 3] (LeAll.cons (by rfl) (by first | with_reducible exact Root.Le.refl _ | with_reducible exact le_dead | (first | exact le_mp (by rw [hst]) | exact le_row (Nat.le_of_eq hLen) (fun j _ => by rw [hst])) | exact byLeq) (by exact byCon) (LeAll.cons (by rfl) (by first | with_reducible exact Root.Le.refl _ | with_reducible exact le_dead | (first | exact le_mp (by rw [hst]) | exact le_row (Nat.le_of_eq hLen) (fun j _ => by rw [hst])) | exact byLeq) (by exact byCon) (LeAll.cons (by rfl) (by first | with_reducible exact Root.Le.refl _ | with_reducible exact le_dead | (first | exact le_mp (by rw [hst]) | exact le_row (Nat.le_of_eq hLen) (fun j _ => by rw [hst])) | exact byLeq) (by exact byCon) (LeAll.cons (by rfl) (by first | with_reducible exact Root.Le.refl _ | with_reducible exact le_dead | (first | exact le_mp (by rw [hst]) | exact le_row (Nat.le_of_eq hLen) (fun j _ => by rw [hst])) | exact byLeq) (by exact byCon) (trivial))))) rfl rfl) (by exact bySlots)) (hy) (by dsimp only; omega)
      · rw [if_neg hm] at hst
        have hLen : (F (y + 1)).2.length = (F y).2.length + 1 := by rw [hst]; simp
        generalize (F y).1 = S at *
        generalize (F y).2 = O at *
        refine WP.cond (by rfl) (fun h => ?_) (fun h => ?_)
        · simp [hm] at h
        refine WP.skip ?_
        refine WP.rw ?_
        refine WPL.run T false 3 tok (by rfl) (by exact byObl) ?_
        refine WPL.callN [] (.sl 5 0 Q.length 2) (hpf) (trivial) (by rfl) (by rfl) (by exact byArgs) (by rfl) (by rfl) (by simp [Sc, sc_pl, sc_ds]; exact fun i _ => sc_prU _ _ i) (by exact byAllc) (rfl) (by exact bySc) rfl ?_
        refine WPL.fin T false tok (by rfl) (by exact byObl) ?_
        refine WP.seq ?_
        refine WP.rs T false tok (by rfl) (by exact byObl) ?_
        refine WP.block ?_
        refine WP.loopH (⟨fun k : Nat => k ≤ Q.length, fun k => [(2, .p 0 [] 0), (3, .p 1 [] 0), (6, .mv mb), (7, .sl 3 0 O.length 1), (8, .i .i64 (x : Int)), (11, .sl 4 0 Q.length 2), (25, .i .i64 (N : Int)), (26, .i .i64 (x : Int)), (30, .i .i64 (M : Int)), (31, .i .i64 (y : Int)), (46, .sl 4 0 Q.length 2), (47, .i .i64 (Q.length : Int)), (48, .i .i64 (k : Int))], fun k => [.var (ds_ N b w), .var (ds_ M b' w'), .mp mb (entS kyP (mkS S Q k)), .row 2 O.length 1 (numsF O), .ro Q.length 2 (prUF Q)], fun k => Q.length - k⟩) (0) (Nat.zero_le _) (Ghost.cut (Nat.le_refl _) (tauOf [0, 1, 2, 3, 5]) _ _ (Taken.of [0, 1, 2, 3, 5] (LeAll.cons (by rfl) (by first | with_reducible exact Root.Le.refl _ | with_reducible exact le_dead | (exact le_mp rfl) | exact byLeq) (by exact byCon) (LeAll.cons (by rfl) (by first | with_reducible exact Root.Le.refl _ | with_reducible exact le_dead | (exact le_mp rfl) | exact byLeq) (by exact byCon) (LeAll.cons (by rfl) (by first | with_reducible exact Root.Le.refl _ | with_reducible exact le_dead | (exact le_mp rfl) | exact byLeq) (by exact byCon) (LeAll.cons (by rfl) (by first | with_reducible exact Root.Le.refl _ | with_reducible exact le_dead | (exact le_mp rfl) | exact byLeq) (by exact byCon) (LeAll.cons (by rfl) (by first | with_reducible exact Root.Le.refl _ | with_reducible exact le_dead | (exact le_mp rfl) | exact byLeq) (by exact byCon) (trivial)))))) rfl rfl) (by exact bySlots)) ?_
        intro k hk
        dsimp only at hk
        dsimp only [Hd.at]
        refine WP.rs T false tok (by rfl) (by exact byObl) ?_
        refine WP.seq ?_
        refine WP.cond (by rfl) (fun hc => WP.skip ?_) (fun hc => WP.exit ?_)
        · have hk : k < Q.length := by have := of_decide_eq_true hc; omega
          clear hc
          have e1 := mkS_succ S Q hk
          refine WP.seq (WP.block ?_)
          refine WP.rs T false tok (by rfl) (by exact byObl) ?_
          refine WP.region ?_
          refine WPL.run T false 2 tok (by rfl) (by exact byObl) ?_
          refine WPL.op (by rfl) (by rfl) (map_put (r := 2) (a := Q.getD k (0, 0)) (L := mkS S Q k) tok (.inl rfl) Try.underlying87 key_pair rfl rfl (by simp [kyP]) rfl rfl) ?_
          rw [← e1]
          refine WPL.nil ?_
          refine WP.run T false tok (by rfl) (by exact byObl) ?_
          refine Again.next (k + 1) (Ghost.cut (Nat.le_refl _) (tauOf [0, 1, 2, 3, 4]) _ _ (Taken.of [0, 1, 2, 3, 4] (LeAll.cons (by rfl) (by first | with_reducible exact Root.Le.refl _ | with_reducible exact le_dead | (exact le_mp rfl) | exact byLeq) (by exact byCon) (LeAll.cons (by rfl) (by first | with_reducible exact Root.Le.refl _ | with_reducible exact le_dead | (exact le_mp rfl) | exact byLeq) (by exact byCon) (LeAll.cons (by rfl) (by first | with_reducible exact Root.Le.refl _ | with_reducible exact le_dead | (exact le_mp rfl) | exact byLeq) (by exact byCon) (LeAll.cons (by rfl) (by first | with_reducible exact Root.Le.refl _ | with_reducible exact le_dead | (exact le_mp rfl) | exact byLeq) (by exact byCon) (LeAll.cons (by rfl) (by first | with_reducible exact Root.Le.refl _ | with_reducible exact le_dead | (exact le_mp rfl) | exact byLeq) (by exact byCon) (trivial)))))) rfl rfl) (by exact bySlots)) (hk) (by dsimp only; omega)
        · have hk : k = Q.length := by have := of_decide_eq_false hc; omega
          subst hk
          clear hc
          refine WP.run T false tok (by rfl) (by exact byObl) ?_
          refine WP.run T false tok (by rfl) (by exact byObl) ?_
          refine Again.next (y + 1) (Ghost.cut (Nat.le_refl _) (tauOf [0, 1, 2, 6]) _ _ (Taken.of [0, 1, 2, 6] (LeAll.cons (by rfl) (by first | with_reducible exact Root.Le.refl _ | with_reducible exact le_dead | (first | exact le_mp (by rw [hst]) | exact le_row (Nat.le_of_eq hLen) (fun j hj => by rw [hst]; exact ap_nums O Q.length _ j (by have := Nat.lt_of_lt_of_le hj (Nat.le_of_eq hLen); omega))) | exact byLeq) (by exact byCon) (LeAll.cons (by rfl) (by first | with_reducible exact Root.Le.refl _ | with_reducible exact le_dead | (first | exact le_mp (by rw [hst]) | exact le_row (Nat.le_of_eq hLen) (fun j hj => by rw [hst]; exact ap_nums O Q.length _ j (by have := Nat.lt_of_lt_of_le hj (Nat.le_of_eq hLen); omega))) | exact byLeq) (by exact byCon) (LeAll.cons (by rfl) (by first | with_reducible exact Root.Le.refl _ | with_reducible exact le_dead | (first | exact le_mp (by rw [hst]) | exact le_row (Nat.le_of_eq hLen) (fun j hj => by rw [hst]; exact ap_nums O Q.length _ j (by have := Nat.lt_of_lt_of_le hj (Nat.le_of_eq hLen); omega))) | exact byLeq) (by exact byCon) (LeAll.cons (by rfl) (by first | with_reducible exact Root.Le.refl _ | with_reducible exact le_dead | (first | exact le_mp (by rw [hst]) | exact le_row (Nat.le_of_eq hLen) (fun j hj => by rw [hst]; exact ap_nums O Q.length _ j (by have := Nat.lt_of_lt_of_le hj (Nat.le_of_eq hLen); omega))) | exact byLeq) (by exact byCon) (trivial))))) rfl rfl) (by exact bySlots)) (hy) (by dsimp only; omega)
    · have hy : y = M := by have := of_decide_eq_false hc; omega
      subst hy
      clear hc
      refine WP.run T false tok (by rfl) (by exact byObl) ?_
      refine Again.next (x + 1) (Ghost.cut (Nat.le_refl _) (tauOf [0, 1, 2, 3]) _ _ (Taken.of [0, 1, 2, 3] (LeAll.cons (by rfl) (by first | with_reducible exact Root.Le.refl _ | with_reducible exact le_dead | (first | exact le_mp rfl | exact le_row (Nat.le_refl _) (fun j hj => rfl)) | exact byLeq) (by exact byCon) (LeAll.cons (by rfl) (by first | with_reducible exact Root.Le.refl _ | with_reducible exact le_dead | (first | exact le_mp rfl | exact le_row (Nat.le_refl _) (fun j hj => rfl)) | exact byLeq) (by exact byCon) (LeAll.cons (by rfl) (by first | with_reducible exact Root.Le.refl _ | with_reducible exact le_dead | (first | exact le_mp rfl | exact le_row (Nat.le_refl _) (fun j hj => rfl)) | exact byLeq) (by exact byCon) (LeAll.cons (by rfl) (by first | with_reducible exact Root.Le.refl _ | with_reducible exact le_dead | (first | exact le_mp rfl | exact le_row (Nat.le_refl _) (fun j hj => rfl)) | exact byLeq) (by exact byCon) (trivial))))) rfl rfl) (by exact bySlots)) (hx) (by dsimp only; omega)
  · have hx : x = N := by have := of_decide_eq_false hc; omega
    subst hx
    clear hc
    have hs := sortN_fn (szAll q M x).2 (by have := sz_len q hM hN; omega)
    have e1 := srtN_len (szAll q M x).2
    generalize srtN (szAll q M x).2 = O at *
    generalize (szAll q M x).2 = O' at *
    refine WP.rw ?_
    refine WPL.run T false 1 tok (by rfl) (by exact byObl) ?_
    refine WPL.callN [3] (.tup 0 (fun _ => .un)) (hs) (LeAll.cons (by rfl) (by first | with_reducible exact Root.Le.refl _ | with_reducible exact le_dead | (skip; done) | exact byLeq) (by exact byCon) (trivial)) (by rfl) (by rfl) (by exact byArgs) (by rfl) (by rfl) (by simp [Sc, sc_pl, sc_ds]) (by exact byAllc) (⟨_, rfl, fun i hi => absurd hi (Nat.not_lt_zero _)⟩) (by exact bySc) rfl ?_
    refine WPL.fin T false tok (by rfl) (by exact byObl) ?_
    refine WP.rs T false tok (by rfl) (by exact byObl) ?_
    exact WP.ret (Ends.new [3] (by rfl) (by exact byObl) (LeAll.cons (by rfl) (by first | with_reducible exact Root.Le.refl _ | with_reducible exact le_dead | (exact le_row (Nat.le_of_eq e1) (fun _ _ => rfl)) | exact byLeq) (by exact byCon) (trivial)) rfl rfl (ren_t2 (renD_len e1 rfl) ⟨rfl, trivial⟩) (sc_t2 (sc_sl rfl) trivial))

end Go.Proofs.Ytaafldclbdlgfaa
