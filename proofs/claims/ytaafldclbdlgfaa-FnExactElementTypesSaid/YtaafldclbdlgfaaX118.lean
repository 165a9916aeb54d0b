import Derived.Test.YtaafldclbdlgfaaL35
import Derived.Test.YtaafldclbdlgfaaX83
/- Elements of a group: the program's list. -/
namespace Go.Proofs.Ytaafldclbdlgfaa
open Go.RowKit DM
set_option linter.unusedSimpArgs false
set_option linter.unusedVariables false
set_option maxRecDepth 100000
set_option maxHeartbeats 1000000

theorem elements_fn (N : Nat) (hN : N ≤ 16) (has : Nat → Nat → Bool) (tab : Nat → Nat → Nat → Nat) (hT : TblOk N has tab) (hO : ordF 16 has N ≤ 5000) :
    FnS Try.prog 45 [.p 0 [] 0] [.var (grD N has tab)] fun r m' => r = .sl 1 0 (elsE N has tab N).length 16 ∧ m' = [.var (grD N has tab), .row 25 (elsE N has tab N).length 16 (rowP (elsE N has tab N))] := by
  have hels : ∀ d, d ≤ N → (elsE N has tab d).length ≤ 5000 := fun d hd => Nat.le_trans (els_le hN hT hd) hO
  have hSc : ∀ (k e n : Nat) (L : List (Nat → Nat)), Sc k (.ow e n 16 (rowP L)) := fun k _ _ L j _ => sc_row k L j
  refine FnS.intoN T tok Try.func45 (by rfl) rfl rfl rfl (by simp) ?_
  refine WP.rs T false tok (by rfl) (by exact byObl) ?_
  refine WP.rw ?_
  refine WPL.run T false 4 tok (by rfl) (by exact byObl) ?_
  refine WPL.call (same_fn N hN) (by rfl) (by rfl) (by rfl) (by simp [Sc, sc_pl, sc_ds, pl_ne, ds_ne]) ?_
  refine WPL.fin T false tok (by rfl) (by exact byObl) ?_
  refine WP.seq ?_
  refine WP.rs T false tok (by rfl) (by exact byObl) ?_
  refine WP.block ?_
  refine WP.loopH (⟨fun z : Nat × List (Nat → Nat) => z.1 ≤ N ∧ z.2 = elsE N has tab (N - z.1), fun z => [(0, .p 0 [] 0), (3, .sl 1 0 z.2.length 16), (4, .i .i64 ((z.1 : Int) - 1))], fun z => [.var (grD N has tab), .row 25 z.2.length 16 (rowP z.2)], fun z => z.1⟩) ((N, [sameF N])) (⟨Nat.le_refl _, by rw [Nat.sub_self]; rfl⟩) (Ghost.cut (Nat.le_refl _) (tauOf [0, 1]) _ _ (Taken.of [0, 1] (LeAll.cons (by rfl) (by first | with_reducible exact Root.Le.refl _ | with_reducible exact le_dead | (exact le_row (Nat.le_refl _) (fun j hj => by obtain rfl : j = 0 := (by have : j < 1 := hj; omega); rfl)) | exact byLeq) (by exact byCon) (LeAll.cons (by rfl) (by first | with_reducible exact Root.Le.refl _ | with_reducible exact le_dead | (exact le_row (Nat.le_refl _) (fun j hj => by obtain rfl : j = 0 := (by have : j < 1 := hj; omega); rfl)) | exact byLeq) (by exact byCon) (trivial))) rfl rfl) (by exact bySlots)) ?_
  rintro ⟨k, E⟩ ⟨hk, hE⟩
  dsimp only at hk hE
  dsimp only [Hd.at]
  have hEl := hels (N - k) (by omega)
  rw [← hE] at hEl
  refine WP.seq ?_
  refine WP.rs T false tok (by rfl) (by exact byObl) ?_
  refine WP.cond (by rfl) (fun hc => WP.skip ?_) (fun hc => WP.exit ?_)
  · obtain ⟨i, rfl⟩ : ∃ i, k = i + 1 := ⟨k - 1, by have := of_decide_eq_true hc; omega⟩
    clear hc
    have hi : i < N := by omega
    have ei : ((i + 1 : Nat) : Int) - 1 = (i : Int) := by omega
    have hE' : levE N has tab i E = elsE N has tab (N - i) := by
      rw [hE, show N - i = (N - (i + 1)) + 1 by omega]
      show _ = levE N has tab (N - ((N - (i + 1)) + 1)) _
      rw [show N - ((N - (i + 1)) + 1) = i by omega]
    have hEl' := hels (N - i) (by omega)
    rw [← hE'] at hEl'
    have hnp : ∀ p ∈ E, Np N p := fun p hp => (InT.np hT (by omega) ((els_mem hN hT (by omega) p).1 (hE ▸ hp))).1
    rw [ei]
    refine WP.seq (WP.block ?_)
    refine WP.rs T false tok (by rfl) (by exact byObl) ?_
    refine WP.seq ?_
    refine WP.rs T false tok (by rfl) (by exact byObl) ?_
    refine WP.block ?_
    refine WP.loopH (⟨fun j : Nat => j ≤ E.length, fun j => [(0, .p 0 [] 0), (4, .i .i64 (i : Int)), (5, .sl 2 0 (levE N has tab i (E.take j)).length 16), (26, .sl 1 0 E.length 16), (27, .i .i64 (E.length : Int)), (28, .i .i64 (j : Int))], fun j => [.var (grD N has tab), .ro E.length 16 (rowP E), .row 25 (levE N has tab i (E.take j)).length 16 (rowP (levE N has tab i (E.take j)))], fun j => E.length - j⟩) (0) (Nat.zero_le _) (Ghost.cut (Nat.le_refl _) (tauOf [0, 1, 2]) _ _ (Taken.of [0, 1, 2] (LeAll.cons (by rfl) (by first | with_reducible exact Root.Le.refl _ | with_reducible exact le_dead | (exact le_row (Nat.le_refl _) (fun j hj => absurd hj (Nat.not_lt_zero _))) | exact byLeq) (by exact byCon) (LeAll.cons (by rfl) (by first | with_reducible exact Root.Le.refl _ | with_reducible exact le_dead | (exact le_row (Nat.le_refl _) (fun j hj => absurd hj (Nat.not_lt_zero _))) | exact byLeq) (by exact byCon) (LeAll.cons (by rfl) (by first | with_reducible exact Root.Le.refl _ | with_reducible exact le_dead | (exact le_row (Nat.le_refl _) (fun j hj => absurd hj (Nat.not_lt_zero _))) | exact byLeq) (by exact byCon) (trivial)))) rfl rfl) (by exact bySlots)) ?_
    intro j hj
    dsimp only at hj
    dsimp only [Hd.at]
    refine WP.rs T false tok (by rfl) (by exact byObl) ?_
    refine WP.seq ?_
    refine WP.cond (by rfl) (fun hc => WP.skip ?_) (fun hc => WP.exit ?_)
    · have hj : j < E.length := by have := of_decide_eq_true hc; omega
      clear hc
      have hst := levE_take N has tab i E hj
      have hpm : E.getD j (fun _ => 0) ∈ E := by
        rw [List.getD_eq_getElem?_getD, List.getElem?_eq_getElem hj]; exact List.getElem_mem hj
      have hbd : ∀ y, y ≤ 16 → (levE N has tab i (E.take j) ++ rowE N has tab i (E.getD j fun _ => 0) y).length ≤ 5000 := fun y hy => by
        have h1 := levE_len N has tab i (E.take j)
        have h2 := levE_len N has tab i E
        have h3 := rowE_len N has tab i (E.getD j fun _ => 0) y
        have h4 : cntB (has i) y ≤ cntB (has i) 16 := by
          rw [← ysL_len, ← ysL_len]
          unfold ysL
          exact ((List.range_sublist.2 hy).filter _).length_le
        have h5 := Nat.mul_le_mul_right (cntB (has i) 16) (show (E.take j).length + 1 ≤ E.length by rw [List.length_take]; omega)
        rw [Nat.add_mul] at h5
        rw [List.length_append]; omega
      have hp := hnp _ hpm
      generalize hpE : E.getD j (fun _ => 0) = p at *
      have hpA : E.getD (addrAt 0 ((j : Nat) : Int).toNat) (fun _ => 0) = p := by rw [addrAt0]; exact hpE
      generalize levE N has tab i (E.take j) = F0 at *
      refine WP.seq (WP.block ?_)
      refine WP.rs T false tok (by rfl) (by exact byObl) ?_
      refine WP.rs T false tok (by rfl) (by exact byObl) ?_
      refine WP.block ?_
      have hLen : (F0 ++ rowE N has tab i p 0).length = F0.length := by rw [rowE_zero, List.append_nil]
      refine WP.loopH (⟨fun y : Nat => y ≤ 16, fun y => [(0, .p 0 [] 0), (4, .i .i64 (i : Int)), (5, .sl 2 0 (F0 ++ rowE N has tab i p y).length 16), (7, .p 3 [] 0), (26, .sl 1 0 E.length 16), (27, .i .i64 (E.length : Int)), (28, .i .i64 (j : Int)), (37, .ar 16 1 fun k => .b (has i k)), (38, .i .i64 (y : Int))], fun y => [.var (grD N has tab), .ro E.length 16 (rowP E), .row 25 (F0 ++ rowE N has tab i p y).length 16 (rowP (F0 ++ rowE N has tab i p y)), .var (pl p)], fun y => 16 - y⟩) (0) (Nat.zero_le _) (Ghost.cut (Nat.le_refl _) (tauOf [0, 1, 2, 3]) _ _ (Taken.of [0, 1, 2, 3] (LeAll.cons (by rfl) (by first | with_reducible exact Root.Le.refl _ | with_reducible exact le_dead | (first | exact le_var (congrArg pl hpA).symm | exact le_row (Nat.le_of_eq hLen) (fun j hj => by rw [rowE_zero, List.append_nil])) | exact byLeq) (by exact byCon) (LeAll.cons (by rfl) (by first | with_reducible exact Root.Le.refl _ | with_reducible exact le_dead | (first | exact le_var (congrArg pl hpA).symm | exact le_row (Nat.le_of_eq hLen) (fun j hj => by rw [rowE_zero, List.append_nil])) | exact byLeq) (by exact byCon) (LeAll.cons (by rfl) (by first | with_reducible exact Root.Le.refl _ | with_reducible exact le_dead | (first | exact le_var (congrArg pl hpA).symm | exact le_row (Nat.le_of_eq hLen) (fun j hj => by rw [rowE_zero, List.append_nil])) | exact byLeq) (by exact byCon) (LeAll.cons (by rfl) (by first | with_reducible exact Root.Le.refl _ | with_reducible exact le_dead | (first | exact le_var (congrArg pl hpA).symm | exact le_row (Nat.le_of_eq hLen) (fun j hj => by rw [rowE_zero, List.append_nil])) | exact byLeq) (by exact byCon) (trivial))))) rfl rfl) (by exact bySlots)) ?_
      clear hLen
      intro y hy
      dsimp only at hy
      dsimp only [Hd.at]
      refine WP.rs T false tok (by rfl) (by exact byObl) ?_
      refine WP.seq ?_
      refine WP.cond (by rfl) (fun hc => WP.skip ?_) (fun hc => WP.exit ?_)
      · have hy : y < 16 := by have := of_decide_eq_true hc; omega
        clear hc
        have hb1 := hbd y (by omega)
        refine WP.seq (WP.block ?_)
        refine WP.rs T false tok (by rfl) (by exact byObl) ?_
        refine WP.rs T false tok (by rfl) (by exact byObl) ?_
        cases hh : has i y with
        | true =>
          have e := rowE_yes (n := N) (tab := tab) (p := p) hh
          have hLen : (F0 ++ rowE N has tab i p (y + 1)).length = (F0 ++ rowE N has tab i p y).length + 1 := by rw [e]; simp [Nat.add_assoc]
          generalize hF1 : F0 ++ rowE N has tab i p y = F1 at *
          have e2 : F0 ++ rowE N has tab i p (y + 1) = F1 ++ [mulF N p (tab i y)] := by rw [e, ← List.append_assoc, hF1]
          have hyN : y < N := hT.lt _ _ hi hh
          refine WP.cond (by rfl) (fun h => ?_) (fun h => WP.skip ?_)
          · refine WP.da (by kernel_rfl) 16 (by kernel_rfl) ?_
            refine WA.takes T false tok [0, 1, 2, 3, 4, 5, 6, 7, 8, 9] (f' := 8) (by kernel_rfl) (by rfl) (by rfl) (by rfl) (by exact byObl) (by rfl) (by rfl) ?_
            refine WA.takes T false tok [10, 11, 12, 13] (f' := 4) (by kernel_rfl) (by rfl) (by rfl) (by rfl) (by exact byObl) (by rfl) (by rfl) ?_
            refine WA.all [14] (by kernel_rfl) (by simp) ?_; intro i' hi'; simp only [List.mem_cons, List.not_mem_nil, or_false] at hi'
            subst hi'
            refine ⟨_, _, _, rfl, by rfl, by rfl, MK.callP (then_fn p (tab i y) N hN hp.perm.lt) (by rfl) (by simp [Sc, sc_pl, sc_ds, pl_ne, ds_ne]), ?_⟩
            refine WA.all [15] (by kernel_rfl) (by simp) ?_; intro i' hi'; simp only [List.mem_cons, List.not_mem_nil, or_false] at hi'
            subst hi'
            refine ⟨_, _, _, rfl, by rfl, by rfl, MK.of tok (wm := false) (by rfl) (by exact byObl) (by rfl) (by exact byObl), ?_⟩
            refine WA.tail (by rfl) (by rfl) (by kernel_rfl) ?_
            refine WPL.fin T false tok (by rfl) (by exact byObl) ?_
            refine noPan ?_
            refine WP.run T false tok (by rfl) (by exact byObl) ?_
            refine Again.next (y + 1) (Ghost.cut (Nat.le_refl _) (tauOf [0, 1, 5, 3]) _ _ (Taken.of [0, 1, 5, 3] (LeAll.cons (by rfl) (by first | with_reducible exact Root.Le.refl _ | with_reducible exact le_dead | (exact le_row (Nat.le_of_eq hLen) (fun j hj => by rw [e2]; exact ap_row1 rfl _ _ j (by omega))) | exact byLeq) (by exact byCon) (LeAll.cons (by rfl) (by first | with_reducible exact Root.Le.refl _ | with_reducible exact le_dead | (exact le_row (Nat.le_of_eq hLen) (fun j hj => by rw [e2]; exact ap_row1 rfl _ _ j (by omega))) | exact byLeq) (by exact byCon) (LeAll.cons (by rfl) (by first | with_reducible exact Root.Le.refl _ | with_reducible exact le_dead | (exact le_row (Nat.le_of_eq hLen) (fun j hj => by rw [e2]; exact ap_row1 rfl _ _ j (by omega))) | exact byLeq) (by exact byCon) (LeAll.cons (by rfl) (by first | with_reducible exact Root.Le.refl _ | with_reducible exact le_dead | (exact le_row (Nat.le_of_eq hLen) (fun j hj => by rw [e2]; exact ap_row1 rfl _ _ j (by omega))) | exact byLeq) (by exact byCon) (trivial))))) rfl rfl) (by exact bySlots)) (hy) (by dsimp only; omega)
          · simp [hh] at h
        | false =>
          have e := rowE_no (n := N) (tab := tab) (p := p) hh
          refine WP.cond (by rfl) (fun h => ?_) (fun h => WP.skip ?_)
          · simp [hh] at h
          · have hLen : (F0 ++ rowE N has tab i p (y + 1)).length = (F0 ++ rowE N has tab i p y).length := by rw [e]
            refine WP.run T false tok (by rfl) (by exact byObl) ?_
            refine Again.next (y + 1) (Ghost.cut (Nat.le_refl _) (tauOf [0, 1, 2, 3]) _ _ (Taken.of [0, 1, 2, 3] (LeAll.cons (by rfl) (by first | with_reducible exact Root.Le.refl _ | with_reducible exact le_dead | (exact le_row (Nat.le_of_eq hLen) (fun j hj => by rw [e])) | exact byLeq) (by exact byCon) (LeAll.cons (by rfl) (by first | with_reducible exact Root.Le.refl _ | with_reducible exact le_dead | (exact le_row (Nat.le_of_eq hLen) (fun j hj => by rw [e])) | exact byLeq) (by exact byCon) (LeAll.cons (by rfl) (by first | with_reducible exact Root.Le.refl _ | with_reducible exact le_dead | (exact le_row (Nat.le_of_eq hLen) (fun j hj => by rw [e])) | exact byLeq) (by exact byCon) (LeAll.cons (by rfl) (by first | with_reducible exact Root.Le.refl _ | with_reducible exact le_dead | (exact le_row (Nat.le_of_eq hLen) (fun j hj => by rw [e])) | exact byLeq) (by exact byCon) (trivial))))) rfl rfl) (by exact bySlots)) (hy) (by dsimp only; omega)
      · have hy : y = 16 := by have := of_decide_eq_false hc; omega
        subst hy
        clear hc
        have hLen := congrArg List.length hst
        refine WP.run T false tok (by rfl) (by exact byObl) ?_
        refine Again.next (j + 1) (Ghost.cut (Nat.le_refl _) (tauOf [0, 1, 2]) _ _ (Taken.of [0, 1, 2] (LeAll.cons (by rfl) (by first | with_reducible exact Root.Le.refl _ | with_reducible exact le_dead | (exact le_row (Nat.le_of_eq hLen) (fun j hj => by rw [hst])) | exact byLeq) (by exact byCon) (LeAll.cons (by rfl) (by first | with_reducible exact Root.Le.refl _ | with_reducible exact le_dead | (exact le_row (Nat.le_of_eq hLen) (fun j hj => by rw [hst])) | exact byLeq) (by exact byCon) (LeAll.cons (by rfl) (by first | with_reducible exact Root.Le.refl _ | with_reducible exact le_dead | (exact le_row (Nat.le_of_eq hLen) (fun j hj => by rw [hst])) | exact byLeq) (by exact byCon) (trivial)))) rfl rfl) (by exact bySlots)) (hj) (by dsimp only; omega)
    · have hj : j = E.length := by have := of_decide_eq_false hc; omega
      subst hj
      clear hc
      rw [List.take_length] at *
      refine WP.run T false tok (by rfl) (by exact byObl) ?_
      refine WP.run T false tok (by rfl) (by exact byObl) ?_
      refine Again.next ((i, levE N has tab i E)) (Ghost.cut (Nat.le_refl _) (tauOf [0, 2]) _ _ (Taken.of [0, 2] (LeAll.cons (by rfl) (by first | with_reducible exact Root.Le.refl _ | with_reducible exact le_dead | (skip; done) | exact byLeq) (by exact byCon) (LeAll.cons (by rfl) (by first | with_reducible exact Root.Le.refl _ | with_reducible exact le_dead | (skip; done) | exact byLeq) (by exact byCon) (trivial))) rfl rfl) (by exact bySlots)) (⟨by omega, hE'⟩) (by dsimp only; omega)
  · have hk : k = 0 := by have := of_decide_eq_false hc; omega
    subst hk
    clear hc
    rw [Nat.sub_zero] at hE
    subst hE
    refine WP.rs T false tok (by rfl) (by exact byObl) ?_
    exact WP.ret (Ends.new [0, 1] (by rfl) (by exact byObl) (LeAll.cons (by rfl) (by first | with_reducible exact Root.Le.refl _ | with_reducible exact le_dead | (skip; done) | exact byLeq) (by exact byCon) (LeAll.cons (by rfl) (by first | with_reducible exact Root.Le.refl _ | with_reducible exact le_dead | (skip; done) | exact byLeq) (by exact byCon) (trivial))) rfl rfl (rfl) (sc_sl rfl))

end Go.Proofs.Ytaafldclbdlgfaa
