import Derived.Test.YtakapfgjdhliaaaX19
/- A permutation from lists among its cycles: the program's side. -/
namespace Go.Proofs.Ytakapfgjdhliaaa
open Go.RowKit DM
set_option linter.unusedSimpArgs false
set_option linter.unusedVariables false
set_option maxRecDepth 100000
set_option maxHeartbeats 1000000

theorem implMade_fn (n : Nat) (ln : Nat → Nat) (g : Nat → Nat → Int) (N : Int) (hn : n ≤ 4294967296) (hl : ∀ j, j < n → ln j ≤ 4294967296) : FnR Try.prog 16 [.sl 0 0 n 1, .i .i64 N] [.ro n 1 (rowsG ln g)] (pcR (pcV N n ln g)) := by
  refine FnS.into T tok Try.func16 (by rfl) rfl rfl rfl (by simp) ?_
  refine WP.rs T false tok (by rfl) (by exact byObl) ?_
  refine WP.seq ?_
  refine WP.rw ?_
  refine WPL.run T false 1 tok (by rfl) (by exact byObl) ?_
  refine WPL.call (isSize_fn N) (by rfl) (by rfl) (by rfl) (by simp [Sc, sc_pl, sc_ds, pl_ne, ds_ne]) ?_
  refine WPL.fin T false tok (by rfl) (by exact byObl) ?_
  unfold pcV
  refine WP.cond (by rfl) (fun h => ?_) (fun h => WP.skip ?_)
  · have h : (decide (1 ≤ N) && decide (N ≤ 16)) = false := by revert h; cases (decide (1 ≤ N) && decide (N ≤ 16)) <;> simp
    rw [h, show (bif false then madeB N.toNat n ln g else none) = none from rfl, show pcR none = t2 (pl fun _ => 0) (.i .i64 2) from rfl]
    refine WP.rs T false tok (by rfl) (by exact byObl) ?_
    exact WP.ret (Ends.val (by rfl) (by exact byObl) (by rfl) (by exact sc_t2 (sc_pl _ _) trivial))
  have h : (decide (1 ≤ N) && decide (N ≤ 16)) = true := by revert h; cases (decide (1 ≤ N) && decide (N ≤ 16)) <;> simp
  rw [h, show (bif true then madeB N.toNat n ln g else none) = madeB N.toNat n ln g from rfl]
  obtain ⟨N, rfl⟩ : ∃ M : Nat, N = M := ⟨N.toNat, by simp at h; omega⟩
  have hN : 1 ≤ N ∧ N ≤ 16 := by simp at h; omega
  clear h
  rw [show ((N : Nat) : Int).toNat = N from rfl]
  unfold madeB
  generalize hF : outB N ln g n 0 (fillF (fun i => i) N, fun _ => false) = F
  refine WP.rw ?_
  refine WPL.run T false 1 tok (by rfl) (by exact byObl) ?_
  refine WPL.call (same_fn N hN.2) (by rfl) (by rfl) (by rfl) (by simp [Sc, sc_pl, sc_ds, pl_ne, ds_ne]) ?_
  refine WPL.fin T false tok (by rfl) (by exact byObl) ?_
  refine WP.rs T false tok (by rfl) (by exact byObl) ?_
  refine WP.seq ?_
  refine WP.rs T false tok (by rfl) (by exact byObl) ?_
  refine WP.block ?_
  refine WP.loopH (⟨fun s : Nat × ((Nat → Nat) × (Nat → Bool)) => s.1 ≤ n ∧ outB N ln g (n - s.1) s.1 s.2 = F, fun s => [(1, .i .i64 (N : Int)), (4, .p 1 [] 0), (6, .p 2 [] 0), (7, .p 3 [] 0), (20, .sl 0 0 n 1), (21, .i .i64 (n : Int)), (22, .i .i64 (s.1 : Int))], fun s => [.ro n 1 (rowsG ln g), .var (pl fun _ => 0), .var (pl s.2.1), .var (bl s.2.2)], fun s => n - s.1⟩) ((0, (fillF (fun i => i) N, fun _ => false))) (⟨Nat.zero_le _, hF⟩) (Ghost.cut (Nat.le_refl _) (tauOf [0, 1, 2, 3]) _ _ (Taken.of [0, 1, 2, 3] (LeAll.cons (by rfl) (by first | with_reducible exact Root.Le.refl _ | with_reducible exact le_dead | (skip; done) | exact byLeq) (by exact byCon) (LeAll.cons (by rfl) (by first | with_reducible exact Root.Le.refl _ | with_reducible exact le_dead | (skip; done) | exact byLeq) (by exact byCon) (LeAll.cons (by rfl) (by first | with_reducible exact Root.Le.refl _ | with_reducible exact le_dead | (skip; done) | exact byLeq) (by exact byCon) (LeAll.cons (by rfl) (by first | with_reducible exact Root.Le.refl _ | with_reducible exact le_dead | (skip; done) | exact byLeq) (by exact byCon) (trivial))))) rfl rfl) (by exact bySlots)) ?_
  rintro ⟨i, out, met⟩ ⟨hi, hO⟩
  simp only at hi hO
  dsimp only [Hd.at]
  refine WP.rs T false tok (by rfl) (by exact byObl) ?_
  refine WP.seq ?_
  refine WP.cond (by rfl) (fun hc => WP.skip ?_) (fun hc => WP.exit ?_)
  · have hi : i < n := by have := of_decide_eq_true hc; omega
    clear hc
    have hli := hl i hi
    have ei : addrAt 0 (i : Int).toNat = i := by simp [addrAt0]
    refine WP.seq (WP.block ?_)
    refine WP.rs T false tok (by rfl) (by exact byObl) ?_
    rw [ei]
    refine WP.seq ?_
    refine WP.rs T false tok (by rfl) (by exact byObl) ?_
    refine WP.cond (by rfl) (fun hh => ?_) (fun hh => WP.skip ?_)
    · have hh : ln i = 0 := by have := of_decide_eq_true hh; omega
      have hF0 : F = none := by rw [← hO, show n - i = (n - (i + 1)) + 1 by omega]; unfold outB; rw [hh]; rfl
      subst hF0
      refine WP.rs T false tok (by rfl) (by exact byObl) ?_
      exact WP.ret (Ends.val (by rfl) (by exact byObl) (by rfl) (by exact sc_t2 (sc_pl _ _) trivial))
    have hh : ln i ≠ 0 := by have := of_decide_eq_false hh; omega
    have hz : Nat.beq (ln i) 0 = false := by cases e : Nat.beq (ln i) 0 with | false => rfl | true => exact absurd (Nat.eq_of_beq_eq_true e) hh
    have hO1 : outB N ln g (n - i) i (out, met) = (inB N (g i) (ln i) (ln i - 0) 0 (out, met)).bind (outB N ln g (n - (i + 1)) (i + 1)) := by rw [show n - i = (n - (i + 1)) + 1 by omega]; show (bif Nat.beq (ln i) 0 then _ else _) = _; rw [hz]; rfl
    rw [hO1] at hO
    clear hO1
    refine WP.rs T false tok (by rfl) (by exact byObl) ?_
    refine WP.block ?_
    refine WP.loopH (⟨fun s : Nat × ((Nat → Nat) × (Nat → Bool)) => s.1 ≤ ln i ∧ (inB N (g i) (ln i) (ln i - s.1) s.1 s.2).bind (outB N ln g (n - (i + 1)) (i + 1)) = F, fun s => [(1, .i .i64 (N : Int)), (4, .p 1 [] 0), (6, .p 2 [] 0), (7, .p 3 [] 0), (9, .sl 4 0 (ln i) 1), (20, .sl 0 0 n 1), (21, .i .i64 (n : Int)), (22, .i .i64 (i : Int)), (30, .sl 4 0 (ln i) 1), (31, .i .i64 (ln i : Int)), (32, .i .i64 (s.1 : Int))], fun s => [.ro n 1 (rowsG ln g), .var (pl fun _ => 0), .var (pl s.2.1), .var (bl s.2.2), .ro (ln i) 1 (fun t => .i .i64 (g i t))], fun s => ln i - s.1⟩) ((0, (out, met))) (⟨Nat.zero_le _, hO⟩) (Ghost.cut (Nat.le_refl _) (tauOf [0, 1, 2, 3, 4]) _ _ (Taken.of [0, 1, 2, 3, 4] (LeAll.cons (by rfl) (by first | with_reducible exact Root.Le.refl _ | with_reducible exact le_dead | (skip; done) | exact byLeq) (by exact byCon) (LeAll.cons (by rfl) (by first | with_reducible exact Root.Le.refl _ | with_reducible exact le_dead | (skip; done) | exact byLeq) (by exact byCon) (LeAll.cons (by rfl) (by first | with_reducible exact Root.Le.refl _ | with_reducible exact le_dead | (skip; done) | exact byLeq) (by exact byCon) (LeAll.cons (by rfl) (by first | with_reducible exact Root.Le.refl _ | with_reducible exact le_dead | (skip; done) | exact byLeq) (by exact byCon) (LeAll.cons (by rfl) (by first | with_reducible exact Root.Le.refl _ | with_reducible exact le_dead | (skip; done) | exact byLeq) (by exact byCon) (trivial)))))) rfl rfl) (by exact bySlots)) ?_
    rintro ⟨k, out, met⟩ ⟨hk, hO⟩
    simp only at hk hO
    dsimp only [Hd.at]
    refine WP.rs T false tok (by rfl) (by exact byObl) ?_
    refine WP.seq ?_
    refine WP.cond (by rfl) (fun hc => WP.skip ?_) (fun hc => WP.exit ?_)
    · have hk : k < ln i := by have := of_decide_eq_true hc; omega
      clear hc
      have hm : (k + 1) % ln i < ln i := Nat.mod_lt _ (by omega)
      have hrem : ((k : Int) + 1).tmod (ln i : Int) = (((k + 1) % ln i : Nat) : Int) := by rw [Int.tmod_eq_emod_of_nonneg (by omega)]; first | rfl | (push_cast; rfl) | simp
      refine WP.seq (WP.block ?_)
      refine WP.rs T false tok (by rfl) (by exact byObl) ?_
      refine WP.rw ?_
      refine WPL.run T false 6 tok (by rfl) (by exact byObl) ?_
      rw [hrem]
      generalize hk1 : (k + 1) % ln i = k1 at hm hrem
      refine WPL.fin T false tok (by rfl) (by exact byObl) ?_
      have e2 : addrAt 0 (k : Int).toNat = k := by simp [addrAt0]
      have e3 : addrAt 0 (k1 : Int).toNat = k1 := by simp [addrAt0]
      rw [e2, e3]
      have hO1 : inB N (g i) (ln i) (ln i - k) k (out, met) = bif okB N (g i k) (g i k1) met then inB N (g i) (ln i) (ln i - (k + 1)) (k + 1) (stB (g i k) (g i k1) (out, met)) else none := by rw [show ln i - k = (ln i - (k + 1)) + 1 by omega]; simp only [inB, hk1]
      rw [hO1] at hO
      clear hO1
      generalize g i k = x at hO
      generalize g i k1 = y at hO
      have bad : okB N x y met = false → F = none := fun e => by rw [← hO, e]; rfl
      refine WP.seq ?_
      refine WP.rw ?_
      refine WPL.run T false 2 tok (by rfl) (by exact byObl) ?_
      cases h1 : decide (x < 0)
      · have h1' := of_decide_eq_false h1
        refine WPL.run T false 4 tok (by rfl) (by exact byObl) ?_
        cases h2 : decide ((N : Int) ≤ x)
        · have h2' := of_decide_eq_false h2
          obtain ⟨X, rfl⟩ : ∃ X : Nat, x = X := ⟨x.toNat, by omega⟩
          refine WPL.run T false 4 tok (by rfl) (by exact byObl) ?_
          cases h3 : decide (y < 0)
          · have h3' := of_decide_eq_false h3
            refine WPL.run T false 5 tok (by rfl) (by exact byObl) ?_
            cases h4 : decide ((N : Int) ≤ y)
            · have h4' := of_decide_eq_false h4
              obtain ⟨Y, rfl⟩ : ∃ Y : Nat, y = Y := ⟨y.toNat, by omega⟩
              refine WPL.fin T false tok (by rfl) (by exact byObl) ?_
              refine WP.cond (by rfl) (fun hh => ?_) (fun hh => WP.skip ?_)
              · have hm1 : met X = true := hh
                have hF0 := bad (okB_no (.inr (.inr (.inr (.inr hm1)))))
                subst hF0
                refine WP.rs T false tok (by rfl) (by exact byObl) ?_
                exact WP.ret (Ends.val (by rfl) (by exact byObl) (by rfl) (by exact sc_t2 (sc_pl _ _) trivial))
              · have hm1 : met X = false := hh
                rw [okB_yes (by omega) (by omega) hm1] at hO
                refine WP.rs T false tok (by rfl) (by exact byObl) ?_
                refine WP.run T false tok (by rfl) (by exact byObl) ?_
                refine WP.run T false tok (by rfl) (by exact byObl) ?_
                refine Again.next ((k + 1, (up out X Y, up met X true))) (Ghost.cut (Nat.le_refl _) (tauOf [0, 1, 2, 3, 4]) _ _ (Taken.of [0, 1, 2, 3, 4] (LeAll.cons (by rfl) (by first | with_reducible exact Root.Le.refl _ | with_reducible exact le_dead | (skip; done) | exact byLeq) (by exact byCon) (LeAll.cons (by rfl) (by first | with_reducible exact Root.Le.refl _ | with_reducible exact le_dead | (skip; done) | exact byLeq) (by exact byCon) (LeAll.cons (by rfl) (by first | with_reducible exact Root.Le.refl _ | with_reducible exact le_dead | (skip; done) | exact byLeq) (by exact byCon) (LeAll.cons (by rfl) (by first | with_reducible exact Root.Le.refl _ | with_reducible exact le_dead | (skip; done) | exact byLeq) (by exact byCon) (LeAll.cons (by rfl) (by first | with_reducible exact Root.Le.refl _ | with_reducible exact le_dead | (skip; done) | exact byLeq) (by exact byCon) (trivial)))))) rfl rfl) (by exact bySlots)) (⟨hk, hO⟩) (by dsimp only; omega)
            · have hF0 := bad (okB_no (.inr (.inr (.inr (.inl (of_decide_eq_true h4))))))
              subst hF0
              refine WPL.fin T false tok (by rfl) (by exact byObl) ?_
              refine WP.cond (by rfl) (fun hh => ?_) (fun hh => WP.skip ?_)
              · refine WP.rs T false tok (by rfl) (by exact byObl) ?_
                exact WP.ret (Ends.val (by rfl) (by exact byObl) (by rfl) (by exact sc_t2 (sc_pl _ _) trivial))
              · cases hh
          · have hF0 := bad (okB_no (.inr (.inr (.inl (of_decide_eq_true h3)))))
            subst hF0
            refine WPL.fin T false tok (by rfl) (by exact byObl) ?_
            refine WP.cond (by rfl) (fun hh => ?_) (fun hh => WP.skip ?_)
            · refine WP.rs T false tok (by rfl) (by exact byObl) ?_
              exact WP.ret (Ends.val (by rfl) (by exact byObl) (by rfl) (by exact sc_t2 (sc_pl _ _) trivial))
            · cases hh
        · have hF0 := bad (okB_no (.inr (.inl (of_decide_eq_true h2))))
          subst hF0
          refine WPL.fin T false tok (by rfl) (by exact byObl) ?_
          refine WP.cond (by rfl) (fun hh => ?_) (fun hh => WP.skip ?_)
          · refine WP.rs T false tok (by rfl) (by exact byObl) ?_
            exact WP.ret (Ends.val (by rfl) (by exact byObl) (by rfl) (by exact sc_t2 (sc_pl _ _) trivial))
          · cases hh
      · have hF0 := bad (okB_no (.inl (of_decide_eq_true h1)))
        subst hF0
        refine WPL.fin T false tok (by rfl) (by exact byObl) ?_
        refine WP.cond (by rfl) (fun hh => ?_) (fun hh => WP.skip ?_)
        · refine WP.rs T false tok (by rfl) (by exact byObl) ?_
          exact WP.ret (Ends.val (by rfl) (by exact byObl) (by rfl) (by exact sc_t2 (sc_pl _ _) trivial))
        · cases hh
    · have hk : k = ln i := by have := of_decide_eq_false hc; omega
      subst hk
      rw [Nat.sub_self] at hO
      refine WP.run T false tok (by rfl) (by exact byObl) ?_
      refine Again.next ((i + 1, (out, met))) (Ghost.cut (Nat.le_refl _) (tauOf [0, 1, 2, 3]) _ _ (Taken.of [0, 1, 2, 3] (LeAll.cons (by rfl) (by first | with_reducible exact Root.Le.refl _ | with_reducible exact le_dead | (skip; done) | exact byLeq) (by exact byCon) (LeAll.cons (by rfl) (by first | with_reducible exact Root.Le.refl _ | with_reducible exact le_dead | (skip; done) | exact byLeq) (by exact byCon) (LeAll.cons (by rfl) (by first | with_reducible exact Root.Le.refl _ | with_reducible exact le_dead | (skip; done) | exact byLeq) (by exact byCon) (LeAll.cons (by rfl) (by first | with_reducible exact Root.Le.refl _ | with_reducible exact le_dead | (skip; done) | exact byLeq) (by exact byCon) (trivial))))) rfl rfl) (by exact bySlots)) (⟨hi, hO⟩) (by dsimp only; omega)
  · have hi : i = n := by have := of_decide_eq_false hc; omega
    subst hi
    rw [Nat.sub_self] at hO
    subst hO
    refine WP.rs T false tok (by rfl) (by exact byObl) ?_
    exact WP.ret (Ends.val (by rfl) (by exact byObl) (by rfl) (by exact sc_t2 (sc_pl _ _) trivial))
end Go.Proofs.Ytakapfgjdhliaaa
