import Derived.Test.YtaafldclbdlgfaaX30
/- Blocks: the reference's side. -/
namespace Go.Proofs.Ytaafldclbdlgfaa
open Go.RowKit DM
set_option linter.unusedSimpArgs false
set_option linter.unusedVariables false
set_option maxRecDepth 100000
set_option maxHeartbeats 1000000

theorem fill_at {f : Nat → Nat} {n i : Nat} (h : i < n) : fillF f n i = f i := by simp [fillF, h]

theorem fill_hit {f : Nat → Nat} {s t i N : Nat} (hi : i < N) (h : f i = s) : up (fillF (pj f s t i) N) i t = fillF (pj f s t (i + 1)) N := by
  rw [← pj_hit h]
  funext j
  unfold up fillF
  by_cases e : j = i
  · subst e; simp [hi]
  · simp [e]

theorem ap_prs2 (l : List (Nat × Nat)) (y y' : Nat × Nat) (z : Nat → Dat) (j : Nat) (hj : j < l.length + 2) : prF (l ++ [y, y']) j = apF l.length (prF l) 0 (fup (fup z 0 (.ar 2 1 (prI y))) 1 (.ar 2 1 (prI y'))) j := by
  unfold apF prF
  by_cases h : j < l.length
  · rw [blt_true h]
    congr 2
    simp only [List.getD_eq_getElem?_getD]
    rw [List.getElem?_append_left h]
  · rw [blt_false h]
    have e : j = l.length ∨ j = l.length + 1 := by omega
    rcases e with rfl | rfl
    · simp [List.getD_eq_getElem?_getD, fup]; rfl
    · simp [List.getD_eq_getElem?_getD, fup]

theorem l03Block_fn (N : Nat) (b w : Nat → Nat) (x y : Nat) (hx : x < N) (hy : y < N) (hN : N ≤ 16) (hb : ∀ i, i < N → b i < N) (hw : ∀ i, i < N → w i < N) : FnS Try.prog 71 [ds_ N b w, .i .i64 (x : Int), .i .i64 (y : Int)] []
    (fun r m' => r = .sl 0 0 (blkL N b w x y).length 1 ∧ m' = [.row 2 (blkL N b w x y).length 1 (numsF (blkL N b w x y))]) := by
  refine FnS.intoN T tok Try.func71 (by rfl) rfl rfl rfl (by simp) ?_
  refine WP.rs T false tok (by rfl) (by exact byObl) ?_
  refine WP.rs T false tok (by rfl) (by exact byObl) ?_
  refine WP.seq ?_
  refine WP.rs T false tok (by rfl) (by exact byObl) ?_
  refine WP.block ?_
  refine WP.loopH (⟨fun i : Nat => i ≤ N, fun i => [(1, .i .i64 (x : Int)), (2, .i .i64 (y : Int)), (3, .p 0 [] 0), (7, .p 1 [] 0), (8, .i .i64 (i : Int))], fun i => [.var (ds_ N b w), .var (.ar 16 1 (nmF (fillF (fun i => i) i)))], fun i => N - i⟩) (0) (Nat.zero_le _) (Ghost.cut (Nat.le_refl _) (tauOf [0, 1]) _ _ (Taken.of [0, 1] (LeAll.cons (by rfl) (by first | with_reducible exact Root.Le.refl _ | with_reducible exact le_dead | (exact le_var (by rw [fill_zero]; rfl)) | exact byLeq) (by exact byCon) (LeAll.cons (by rfl) (by first | with_reducible exact Root.Le.refl _ | with_reducible exact le_dead | (exact le_var (by rw [fill_zero]; rfl)) | exact byLeq) (by exact byCon) (trivial))) rfl rfl) (by exact bySlots)) ?_
  · intro i hi
    dsimp only at hi
    dsimp only [Hd.at]
    refine WP.seq ?_
    refine WP.rs T false tok (by rfl) (by exact byObl) ?_
    refine WP.cond (by rfl) (fun hc => WP.skip ?_) (fun hc => WP.exit ?_)
    · have hi : i < N := by have := of_decide_eq_true hc; omega
      clear hc
      refine WP.seq (WP.block ?_)
      refine WP.run T false tok (by rfl) (by exact byObl) ?_
      refine WP.run T false tok (by rfl) (by exact byObl) ?_
      refine Again.next (i + 1) (Ghost.cut (Nat.le_refl _) (tauOf [0, 1]) _ _ (Taken.of [0, 1] (LeAll.cons (by rfl) (by first | with_reducible exact Root.Le.refl _ | with_reducible exact le_dead | (exact le_var (by rw [← fill_step, nm_up]; rfl)) | exact byLeq) (by exact byCon) (LeAll.cons (by rfl) (by first | with_reducible exact Root.Le.refl _ | with_reducible exact le_dead | (exact le_var (by rw [← fill_step, nm_up]; rfl)) | exact byLeq) (by exact byCon) (trivial))) rfl rfl) (by exact bySlots)) (hi) (by dsimp only; omega)
    · have hi : i = N := by have := of_decide_eq_false hc; omega
      subst hi
      refine WP.rs T false tok (by rfl) (by exact byObl) ?_
      refine WP.seq ?_
      refine WP.rs T false tok (by rfl) (by exact byObl) ?_
      refine WP.block ?_
      refine WP.loopH (⟨fun s : Nat × List (Nat × Nat) × (Nat → Nat) => BlkInv i b w x y s.2.2 (s.2.1.drop s.1) ∧ s.1 ≤ s.2.1.length ∧ s.2.1.length + 2 * reps i s.2.2 ≤ 33, fun s => [(1, .i .i64 (x : Int)), (3, .p 0 [] 0), (7, .p 1 [] 0), (9, .sl 2 0 s.2.1.length 2), (10, .i .i64 (s.1 : Int))], fun s => [.var (ds_ i b w), .var (.ar 16 1 (nmF (fillF s.2.2 i))), .row 110 s.2.1.length 2 (prF s.2.1)], fun s => 3 * reps i s.2.2 + (s.2.1.length - s.1)⟩) ((0, [(x, y)], fun i => i)) (⟨BlkInv.start hx hy, Nat.zero_le _, by have := reps_le i fun i => i; simp only [List.length_singleton]; omega⟩) (Ghost.cut (Nat.le_refl _) (tauOf [0, 1, 2]) _ _ (Taken.of [0, 1, 2] (LeAll.cons (by rfl) (by first | with_reducible exact Root.Le.refl _ | with_reducible exact le_dead | (exact le_row (Nat.le_refl _) (fun j hj => by obtain rfl : j = 0 := (by have : j < 1 := hj; omega); rfl)) | exact byLeq) (by exact byCon) (LeAll.cons (by rfl) (by first | with_reducible exact Root.Le.refl _ | with_reducible exact le_dead | (exact le_row (Nat.le_refl _) (fun j hj => by obtain rfl : j = 0 := (by have : j < 1 := hj; omega); rfl)) | exact byLeq) (by exact byCon) (LeAll.cons (by rfl) (by first | with_reducible exact Root.Le.refl _ | with_reducible exact le_dead | (exact le_row (Nat.le_refl _) (fun j hj => by obtain rfl : j = 0 := (by have : j < 1 := hj; omega); rfl)) | exact byLeq) (by exact byCon) (trivial)))) rfl rfl) (by exact bySlots)) ?_
      rintro ⟨k, Q, f⟩ ⟨hI, hkl, hM⟩
      simp only at hI hkl hM
      dsimp only [Hd.at]
      refine WP.seq ?_
      refine WP.rs T false tok (by rfl) (by exact byObl) ?_
      refine WP.cond (by rfl) (fun hc => WP.skip ?_) (fun hc => WP.exit ?_)
      · have hk : k < Q.length := by have := of_decide_eq_true hc; omega
        clear hc
        have hdrop : Q.drop k = ((Q.getD k (0, 0)).1, (Q.getD k (0, 0)).2) :: Q.drop (k + 1) := by
          rw [List.drop_eq_getElem_cons hk, List.getD_eq_getElem?_getD, List.getElem?_eq_getElem hk]; rfl
        rw [hdrop] at hI
        obtain ⟨hi0, hj0⟩ := hI.lt _ _ (List.mem_cons_self ..)
        have hfa : fillF f i (Q.getD k (0, 0)).1 = f (Q.getD k (0, 0)).1 := fill_at hi0
        have hfb : fillF f i (Q.getD k (0, 0)).2 = f (Q.getD k (0, 0)).2 := fill_at hj0
        have hi16 : (Q.getD k (0, 0)).1 < 16 := by omega
        have hj16 : (Q.getD k (0, 0)).2 < 16 := by omega
        refine WP.seq (WP.block ?_)
        refine WP.dw (by kernel_rfl) (by kernel_rfl) ?_
        refine WQ.fin T false tok (by rfl) (by rfl) (by exact byObl) ?_
        refine WP.ghost (Ghost.cut (Nat.le_refl _) (tauOf [0, 1, 2]) [(1, .i .i64 (x : Int)), (3, .p 0 [] 0), (7, .p 1 [] 0), (9, .sl 2 0 Q.length 2), (10, .i .i64 (k : Int)), (11, .i .i64 (((Q.getD k (0, 0)).1 : Nat) : Int)), (12, .i .i64 (((Q.getD k (0, 0)).2 : Nat) : Int))] [.var (ds_ i b w), .var (.ar 16 1 (nmF (fillF f i))), .row 110 Q.length 2 (prF Q)] (Taken.of [0, 1, 2] (LeAll.cons (by rfl) (by first | with_reducible exact Root.Le.refl _ | with_reducible exact le_dead | (skip; done) | exact byLeq) (by exact byCon) (LeAll.cons (by rfl) (by first | with_reducible exact Root.Le.refl _ | with_reducible exact le_dead | (skip; done) | exact byLeq) (by exact byCon) (LeAll.cons (by rfl) (by first | with_reducible exact Root.Le.refl _ | with_reducible exact le_dead | (skip; done) | exact byLeq) (by exact byCon) (trivial)))) rfl rfl) (by exact bySlots)) ?_
        generalize (Q.getD k (0, 0)).1 = i0 at *
        generalize (Q.getD k (0, 0)).2 = j0 at *
        refine WP.seq ?_
        refine WP.dw (by kernel_rfl) (by kernel_rfl) ?_
        refine WQ.fin T false tok (by rfl) (by rfl) (by exact byObl) ?_
        have hfa' : fillF f i ((i0 : Nat) : Int).toNat = f i0 := hfa
        have hfb' : fillF f i ((j0 : Nat) : Int).toNat = f j0 := hfb
        rw [hfa', hfb']
        by_cases he : f i0 = f j0
        · refine WP.cond (by rfl) (fun h => ?_) (fun h => WP.skip ?_)
          · refine WP.exit ?_
            refine WP.run T false tok (by rfl) (by exact byObl) ?_
            refine Again.next ((k + 1, Q, f)) (Ghost.cut (Nat.le_refl _) (tauOf [0, 1, 2]) _ _ (Taken.of [0, 1, 2] (LeAll.cons (by rfl) (by first | with_reducible exact Root.Le.refl _ | with_reducible exact le_dead | (skip; done) | exact byLeq) (by exact byCon) (LeAll.cons (by rfl) (by first | with_reducible exact Root.Le.refl _ | with_reducible exact le_dead | (skip; done) | exact byLeq) (by exact byCon) (LeAll.cons (by rfl) (by first | with_reducible exact Root.Le.refl _ | with_reducible exact le_dead | (skip; done) | exact byLeq) (by exact byCon) (trivial)))) rfl rfl) (by exact bySlots)) (⟨hI.skip he, hk, hM⟩) (by dsimp only; omega)
          · have h := of_decide_eq_false h
            exact absurd (by exact_mod_cast he) h
        · refine WP.cond (by rfl) (fun h => ?_) (fun h => WP.skip ?_)
          · have h := of_decide_eq_true h
            exact absurd (by exact_mod_cast h) he
          · have hst : (f j0 = f i0 ∧ f i0 = f j0) ∨ (f j0 = f j0 ∧ f i0 = f i0) := .inr ⟨rfl, rfl⟩
            have hrep := hI.reps hst (fun e => he e.symm)
            have hI2 := hI.join hb hw hst
            have hb1 := hb _ hi0
            have hb2 := hb _ hj0
            have hw1 := hw _ hi0
            have hw2 := hw _ hj0
            refine WP.dw (by kernel_rfl) (by kernel_rfl) ?_
            refine WQ.fin T false tok (by rfl) (by rfl) (by exact byObl) ?_
            rw [hfa', hfb']
            refine WP.seq ?_
            refine WP.rs T false tok (by rfl) (by exact byObl) ?_
            refine WP.block ?_
            refine WP.loopH (⟨fun q : Nat => q ≤ i, fun q => [(1, .i .i64 (x : Int)), (3, .p 0 [] 0), (7, .p 1 [] 0), (9, .sl 2 0 Q.length 2), (10, .i .i64 (k : Int)), (11, .i .i64 (i0 : Int)), (12, .i .i64 (j0 : Int)), (13, .i .i64 (f j0 : Int)), (14, .i .i64 (f i0 : Int)), (15, .i .i64 (q : Int))], fun q => [.var (ds_ i b w), .var (.ar 16 1 (nmF (fillF (pj f (f j0) (f i0) q) i))), .row 110 Q.length 2 (prF Q)], fun q => i - q⟩) (0) (Nat.zero_le _) (Ghost.cut (Nat.le_refl _) (tauOf [0, 1, 2]) _ _ (Taken.of [0, 1, 2] (LeAll.cons (by rfl) (by first | with_reducible exact Root.Le.refl _ | with_reducible exact le_dead | ((rw [pj_zero]; exact Root.Le.refl _)) | exact byLeq) (by exact byCon) (LeAll.cons (by rfl) (by first | with_reducible exact Root.Le.refl _ | with_reducible exact le_dead | ((rw [pj_zero]; exact Root.Le.refl _)) | exact byLeq) (by exact byCon) (LeAll.cons (by rfl) (by first | with_reducible exact Root.Le.refl _ | with_reducible exact le_dead | ((rw [pj_zero]; exact Root.Le.refl _)) | exact byLeq) (by exact byCon) (trivial)))) rfl rfl) (by exact bySlots)) ?_
            intro q hq
            dsimp only at hq
            dsimp only [Hd.at]
            refine WP.seq ?_
            refine WP.rs T false tok (by rfl) (by exact byObl) ?_
            refine WP.cond (by rfl) (fun hc => WP.skip ?_) (fun hc => WP.exit ?_)
            · have hq : q < i := by have := of_decide_eq_true hc; omega
              clear hc
              have hq16 : q < 16 := by omega
              have hfq : fillF (pj f (f j0) (f i0) q) i ((q : Nat) : Int).toNat = f q := (fill_at hq).trans (pj_at _ _ _ _)
              refine WP.seq (WP.block ?_)
              refine WP.rs T false tok (by rfl) (by exact byObl) ?_
              rw [hfq]
              by_cases hh : f q = f j0
              · refine WP.cond (by rfl) (fun h => ?_) (fun h => WP.skip ?_)
                · refine WP.run T false tok (by rfl) (by exact byObl) ?_
                  refine WP.run T false tok (by rfl) (by exact byObl) ?_
                  refine Again.next (q + 1) (Ghost.cut (Nat.le_refl _) (tauOf [0, 1, 2]) _ _ (Taken.of [0, 1, 2] (LeAll.cons (by rfl) (by first | with_reducible exact Root.Le.refl _ | with_reducible exact le_dead | (exact le_var (by rw [← fill_hit hq hh, nm_up]; rfl)) | exact byLeq) (by exact byCon) (LeAll.cons (by rfl) (by first | with_reducible exact Root.Le.refl _ | with_reducible exact le_dead | (exact le_var (by rw [← fill_hit hq hh, nm_up]; rfl)) | exact byLeq) (by exact byCon) (LeAll.cons (by rfl) (by first | with_reducible exact Root.Le.refl _ | with_reducible exact le_dead | (exact le_var (by rw [← fill_hit hq hh, nm_up]; rfl)) | exact byLeq) (by exact byCon) (trivial)))) rfl rfl) (by exact bySlots)) (hq) (by dsimp only; omega)
                · have h := of_decide_eq_false h
                  exact absurd (by exact_mod_cast hh) h
              · refine WP.cond (by rfl) (fun h => ?_) (fun h => WP.skip ?_)
                · have h := of_decide_eq_true h
                  exact absurd (by exact_mod_cast h) hh
                · refine WP.run T false tok (by rfl) (by exact byObl) ?_
                  refine Again.next (q + 1) (Ghost.cut (Nat.le_refl _) (tauOf [0, 1, 2]) _ _ (Taken.of [0, 1, 2] (LeAll.cons (by rfl) (by first | with_reducible exact Root.Le.refl _ | with_reducible exact le_dead | ((rw [← pj_miss hh]; exact Root.Le.refl _)) | exact byLeq) (by exact byCon) (LeAll.cons (by rfl) (by first | with_reducible exact Root.Le.refl _ | with_reducible exact le_dead | ((rw [← pj_miss hh]; exact Root.Le.refl _)) | exact byLeq) (by exact byCon) (LeAll.cons (by rfl) (by first | with_reducible exact Root.Le.refl _ | with_reducible exact le_dead | ((rw [← pj_miss hh]; exact Root.Le.refl _)) | exact byLeq) (by exact byCon) (trivial)))) rfl rfl) (by exact bySlots)) (hq) (by dsimp only; omega)
            · have hq : q = i := by have := of_decide_eq_false hc; omega
              subst hq
              have hg : fillF (pj f (f j0) (f i0) q) q = fillF (joinF f (f j0) (f i0)) q := by
                funext j
                unfold fillF
                split
                · rename_i h; exact pj_lt h
                · rfl
              rw [hg]
              generalize joinF f (f j0) (f i0) = g at *
              refine WP.da (by kernel_rfl) 24 (by kernel_rfl) ?_
              refine WA.takes T false tok [0, 1, 2, 3, 4, 5, 6, 7] (f' := 18) (by kernel_rfl) (by rfl) (by rfl) (by rfl) (by exact byObl) (by rfl) (by rfl) ?_
              refine WA.takes T false tok [8, 9, 10, 11, 12, 13, 14, 15] (f' := 10) (by kernel_rfl) (by rfl) (by rfl) (by rfl) (by exact byObl) (by rfl) (by rfl) ?_
              refine WA.takes T false tok [16, 17, 18, 19, 20, 21, 22] (f' := 3) (by kernel_rfl) (by rfl) (by rfl) (by rfl) (by exact byObl) (by rfl) (by rfl) ?_
              refine WA.all [23] (by kernel_rfl) (by simp) ?_
              intro i' hi'
              obtain rfl : i' = 23 := by simpa using hi'
              refine ⟨_, _, _, rfl, by rfl, by rfl, MK.of tok (wm := false) (by rfl) (by exact byObl) (by rfl) (by exact byObl), ?_⟩
              refine WA.tail (by rfl) (by rfl) (by kernel_rfl) ?_
              refine WPL.fin T false tok (by rfl) (by exact byObl) ?_
              refine noPan ?_
              refine WP.run T false tok (by rfl) (by exact byObl) ?_
              have hLen : (Q ++ [(b i0, b j0), (w i0, w j0)]).length = Q.length + 2 := by simp
              refine Again.next ((k + 1, Q ++ [(b i0, b j0), (w i0, w j0)], g)) (Ghost.cut (Nat.le_refl _) (tauOf [0, 1, 4]) _ _ (Taken.of [0, 1, 4] (LeAll.cons (by rfl) (by first | with_reducible exact Root.Le.refl _ | with_reducible exact le_dead | (exact le_row (Nat.le_of_eq hLen) (fun j hj => ap_prs2 Q _ _ _ j (by rw [hLen] at hj; exact hj))) | exact byLeq) (by exact byCon) (LeAll.cons (by rfl) (by first | with_reducible exact Root.Le.refl _ | with_reducible exact le_dead | (exact le_row (Nat.le_of_eq hLen) (fun j hj => ap_prs2 Q _ _ _ j (by rw [hLen] at hj; exact hj))) | exact byLeq) (by exact byCon) (LeAll.cons (by rfl) (by first | with_reducible exact Root.Le.refl _ | with_reducible exact le_dead | (exact le_row (Nat.le_of_eq hLen) (fun j hj => ap_prs2 Q _ _ _ j (by rw [hLen] at hj; exact hj))) | exact byLeq) (by exact byCon) (trivial)))) rfl rfl) (by exact bySlots)) (⟨by rw [List.drop_append_of_le_length (by omega)]; exact hI2.perm fun z => by (simp only [List.mem_append, List.mem_cons, List.not_mem_nil, or_false]; constructor <;> rintro (h | h | h) <;> simp [h]), by rw [hLen]; omega, by simp only [hLen]; omega⟩) (by simp only [hLen]; omega)
      · have hk : Q.length ≤ k := by have := of_decide_eq_false hc; omega
        rw [List.drop_eq_nil_of_le hk] at hI
        have hL := hI.list
        have hfx : fillF f i x = f x := fill_at hx
        have hx16 : x < 16 := by omega
        refine WP.rs T false tok (by rfl) (by exact byObl) ?_
        refine WP.seq ?_
        refine WP.rs T false tok (by rfl) (by exact byObl) ?_
        refine WP.block ?_
        refine WP.loopH (⟨fun q : Nat => q ≤ i, fun q => [(1, .i .i64 (x : Int)), (3, .p 0 [] 0), (7, .p 1 [] 0), (16, .sl 2 0 (fltL f (f x) q).length 1), (17, .i .i64 (q : Int))], fun q => [.var (ds_ i b w), .var (.ar 16 1 (nmF (fillF f i))), .row 2 (fltL f (f x) q).length 1 (numsF (fltL f (f x) q))], fun q => i - q⟩) (0) (Nat.zero_le _) (Ghost.cut (Nat.le_refl _) (tauOf [0, 1, 3]) _ _ (Taken.of [0, 1, 3] (LeAll.cons (by rfl) (by first | with_reducible exact Root.Le.refl _ | with_reducible exact le_dead | (exact le_row (Nat.le_refl _) (fun j hj => absurd hj (Nat.not_lt_zero _))) | exact byLeq) (by exact byCon) (LeAll.cons (by rfl) (by first | with_reducible exact Root.Le.refl _ | with_reducible exact le_dead | (exact le_row (Nat.le_refl _) (fun j hj => absurd hj (Nat.not_lt_zero _))) | exact byLeq) (by exact byCon) (LeAll.cons (by rfl) (by first | with_reducible exact Root.Le.refl _ | with_reducible exact le_dead | (exact le_row (Nat.le_refl _) (fun j hj => absurd hj (Nat.not_lt_zero _))) | exact byLeq) (by exact byCon) (trivial)))) rfl rfl) (by exact bySlots)) ?_
        intro q hq
        dsimp only at hq
        dsimp only [Hd.at]
        have hl := flt_len f (f x) q
        refine WP.seq ?_
        refine WP.rs T false tok (by rfl) (by exact byObl) ?_
        refine WP.cond (by rfl) (fun hc => WP.skip ?_) (fun hc => WP.exit ?_)
        · have hq : q < i := by have := of_decide_eq_true hc; omega
          clear hc
          have hq16 : q < 16 := by omega
          have hfq : fillF f i ((q : Nat) : Int).toNat = f q := fill_at hq
          have hfx' : fillF f i ((x : Nat) : Int).toNat = f x := hfx
          refine WP.seq (WP.block ?_)
          refine WP.seq ?_
          refine WP.drawsQ (by kernel_rfl) (by kernel_rfl) ?_
          refine WQ.fin T false tok (by rfl) (by rfl) (by exact byObl) ?_
          rw [hfq, hfx']
          by_cases he : f q = f x
          · refine WP.cond (by rfl) (fun h => ?_) (fun h => WP.skip ?_)
            · refine WP.run T false tok (by rfl) (by exact byObl) ?_
              refine WP.run T false tok (by rfl) (by exact byObl) ?_
              have hLen : (fltL f (f x) (q + 1)).length = (fltL f (f x) q).length + 1 := by rw [flt_hit he]; simp
              refine Again.next (q + 1) (Ghost.cut (Nat.le_refl _) (tauOf [0, 1, 4]) _ _ (Taken.of [0, 1, 4] (LeAll.cons (by rfl) (by first | with_reducible exact Root.Le.refl _ | with_reducible exact le_dead | (exact le_row (Nat.le_of_eq hLen) (fun j hj => by rw [flt_hit he]; exact ap_nums _ _ _ j (by rw [hLen] at hj; exact hj))) | exact byLeq) (by exact byCon) (LeAll.cons (by rfl) (by first | with_reducible exact Root.Le.refl _ | with_reducible exact le_dead | (exact le_row (Nat.le_of_eq hLen) (fun j hj => by rw [flt_hit he]; exact ap_nums _ _ _ j (by rw [hLen] at hj; exact hj))) | exact byLeq) (by exact byCon) (LeAll.cons (by rfl) (by first | with_reducible exact Root.Le.refl _ | with_reducible exact le_dead | (exact le_row (Nat.le_of_eq hLen) (fun j hj => by rw [flt_hit he]; exact ap_nums _ _ _ j (by rw [hLen] at hj; exact hj))) | exact byLeq) (by exact byCon) (trivial)))) rfl rfl) (by exact bySlots)) (hq) (by dsimp only; omega)
            · have h := of_decide_eq_false h
              exact absurd (by exact_mod_cast he) h
          · refine WP.cond (by rfl) (fun h => ?_) (fun h => WP.skip ?_)
            · have h := of_decide_eq_true h
              exact absurd (by exact_mod_cast h) he
            · refine WP.run T false tok (by rfl) (by exact byObl) ?_
              have hLen : (fltL f (f x) (q + 1)).length = (fltL f (f x) q).length := by rw [flt_miss he]
              refine Again.next (q + 1) (Ghost.cut (Nat.le_refl _) (tauOf [0, 1, 2]) _ _ (Taken.of [0, 1, 2] (LeAll.cons (by rfl) (by first | with_reducible exact Root.Le.refl _ | with_reducible exact le_dead | ((rw [flt_miss he]; exact Root.Le.refl _)) | exact byLeq) (by exact byCon) (LeAll.cons (by rfl) (by first | with_reducible exact Root.Le.refl _ | with_reducible exact le_dead | ((rw [flt_miss he]; exact Root.Le.refl _)) | exact byLeq) (by exact byCon) (LeAll.cons (by rfl) (by first | with_reducible exact Root.Le.refl _ | with_reducible exact le_dead | ((rw [flt_miss he]; exact Root.Le.refl _)) | exact byLeq) (by exact byCon) (trivial)))) rfl rfl) (by exact bySlots)) (hq) (by dsimp only; omega)
        · have hq : q = i := by have := of_decide_eq_false hc; omega
          subst hq
          rw [← hL]
          refine WP.rs T false tok (by rfl) (by exact byObl) ?_
          exact WP.ret (Ends.new [2] (by rfl) (by exact byObl) (LeAll.cons (by rfl) (by first | with_reducible exact Root.Le.refl _ | with_reducible exact le_dead | (skip; done) | exact byLeq) (by exact byCon) (trivial)) rfl rfl (rfl) (sc_sl rfl))

end Go.Proofs.Ytaafldclbdlgfaa
