import Derived.Test.YtaafldclbdlgfaaX121
/- Types of elements: the reference's side, the region that puts one in. Printed by tools/gen120.py. -/
namespace Go.Proofs.Ytaafldclbdlgfaa
open Go.RowKit DM
set_option linter.unusedSimpArgs false
set_option linter.unusedVariables false
set_option maxRecDepth 100000
set_option maxHeartbeats 1000000

set_option maxHeartbeats 20000000 in
theorem reg15l {N : Nat} {b w : Nat → Nat} {E : List (Nat → Nat)} {D : List (List Nat)} {Cn own : List Nat} {i a : Nat} (hCl : Cn.length = D.length) (hol : own.length ≤ 16) (hDl : D.length ≤ 5000) (ha : a < D.length) : ∀ {Q : Exit → St → Prop}, WP Try.prog Try.f12.ntmps 0 (regF Try.f12 15) (Then (fun s' => Ghost 0 s' ⟨lst [(1, .p 0 [] 0), (6, .sl 1 0 E.length 16), (7, .sl 2 0 D.length 1), (8, .sl 3 0 D.length 1), (9, .i .i64 (i : Int)), (11, .i .i64 ((a : Nat) : Int)), (12, .sl 4 0 (1 + (D.length - a)) 1), (13, .sl 5 0 (1 + (D.length - a)) 1)], [.var (ds_ N b w), .ro E.length 16 (rowP E), .row 34 D.length 1 (rowsR D), .row 2 D.length 1 (numsF Cn), .row 34 (1 + (D.length - a)) 1 (rowsR (own :: D.drop a)), .row 2 (1 + (D.length - a)) 1 (numsF (1 :: Cn.drop a))]⟩) Q) ⟨lst [(1, .p 0 [] 0), (6, .sl 1 0 E.length 16), (7, .sl 2 0 D.length 1), (8, .sl 3 0 D.length 1), (9, .i .i64 (i : Int)), (10, .sl 4 0 own.length 1), (11, .i .i64 ((a : Nat) : Int))], [.var (ds_ N b w), .ro E.length 16 (rowP E), .row 34 D.length 1 (rowsR D), .row 2 D.length 1 (numsF Cn), .ro own.length 1 (numsF own)]⟩ := by
  have hSc : ∀ (k e n : Nat) (L : List (Nat → Nat)), Sc k (.ow e n 16 (rowP L)) := fun k _ _ L j _ => sc_row k L j
  conv in (regF _ _) => whnf
  have hLn : 1 + (D.length - a) = 1 + (D.length - a) := rfl
  intro Q
  refine WP.da (by kernel_rfl) 5 (by kernel_rfl) ?_
  refine WA.takesD T false tok [0, 2, 3, 7, 8] (f' := 8) (by kernel_rfl) (by rfl) (by rfl) (by exact byObl) (by rfl) (by rfl) ?_
  refine WA.allT [1, 4, 6, 9] (by kernel_rfl) (by simp) ?_; intro i' hi'; simp only [List.mem_cons, List.not_mem_nil, or_false] at hi'
  rcases hi' with rfl | rfl | rfl | rfl
  · refine ⟨_, _, _, rfl, by rfl, by rfl, .inl (MK.of tok (wm := false) (by rfl) (by exact byObl) (by rfl) (by exact byObl)), ?_⟩
    refine WA.allT [4, 6, 9] (by kernel_rfl) (by simp) ?_; intro i' hi'; simp only [List.mem_cons, List.not_mem_nil, or_false] at hi'
    rcases hi' with rfl | rfl | rfl
    · refine ⟨_, _, _, rfl, by rfl, by rfl, .inl (MK.q (sll_ok (l := a) tok rfl rfl rfl rfl rfl rfl rfl (by omega) (by omega))), ?_⟩
      refine WA.allT [5, 6, 9] (by kernel_rfl) (by simp) ?_; intro i' hi'; simp only [List.mem_cons, List.not_mem_nil, or_false] at hi'
      rcases hi' with rfl | rfl | rfl
      · refine ⟨_, _, _, rfl, by rfl, by rfl, .inr ⟨by decide, TK.ofOK (ok_app_keepN (f2 := rowsR D) tok rfl rfl rfl rfl rfl rfl (by decide) rfl rfl rfl (by decide) (fun j _ => noOwn_R _) (Nat.le_refl _) (by omega) (by omega) rfl rfl)⟩, ?_⟩
        refine WA.allT [6, 9] (by kernel_rfl) (by simp) ?_; intro i' hi'; simp only [List.mem_cons, List.not_mem_nil, or_false] at hi'
        rcases hi' with rfl | rfl
        · refine ⟨_, _, _, rfl, by rfl, by rfl, .inl (MK.of tok (wm := false) (by rfl) (by exact byObl) (by rfl) (by exact byObl)), ?_⟩
          refine WA.allT [9] (by kernel_rfl) (by simp) ?_; intro i' hi'; simp only [List.mem_cons, List.not_mem_nil, or_false] at hi'
          subst hi'
          refine ⟨_, _, _, rfl, by rfl, by rfl, .inl (MK.q (sll_ok (l := a) tok rfl rfl rfl rfl rfl rfl rfl (by omega) (by omega))), ?_⟩
          refine WA.allT [10] (by kernel_rfl) (by simp) ?_; intro i' hi'; simp only [List.mem_cons, List.not_mem_nil, or_false] at hi'
          subst hi'
          refine ⟨_, _, _, rfl, by rfl, by rfl, .inr ⟨by decide, TK.ofOK (ok_app_keep (f2 := numsF Cn) tok rfl rfl rfl rfl rfl rfl (by decide) rfl rfl rfl (by decide) (fun j _ => (trivial : Pl (numsF Cn j))) (Nat.le_refl _) (by omega) (by omega) rfl rfl)⟩, ?_⟩
          refine WA.takesD T false tok [11, 12] (f' := 0) (by kernel_rfl) (by rfl) (by rfl) (by exact byObl) (by rfl) (by rfl) ?_
          refine WA.end rfl (by kernel_rfl) (noPan ?_)
          refine Ghost.trans (Ghost.fold 6 [0] 4 0 (by rfl) (by rfl) (by simp) (by exact (show (if 0 < 1 + (D.length - a) then some (Dat.sl 4 0 own.length 1) else none) = some (Dat.sl 4 0 own.length 1) from if_pos (by omega))) ⟨Nat.le_refl _, .inl ⟨rfl, rfl, fun _ _ => trivial⟩⟩ (by rfl)) ?_
          exact cut15 6 8 rfl rfl rfl rfl rfl rfl rfl hLn (fun j hj => cons_R2 own D (a) _ _ _ (fun i hi => by rw [Nat.zero_add]) hj) (fun j hj => cons_N 1 Cn (a) _ _ _ rfl (fun i hi => by rw [Nat.zero_add]) (by rw [hCl]; exact hj)) rfl rfl rfl rfl rfl rfl rfl rfl
        · refine ⟨_, _, _, rfl, by rfl, by rfl, .inl (MK.q (sll_ok (l := a) tok rfl rfl rfl rfl rfl rfl rfl (by omega) (by omega))), ?_⟩
          refine WA.allT [6] (by kernel_rfl) (by simp) ?_; intro i' hi'; simp only [List.mem_cons, List.not_mem_nil, or_false] at hi'
          subst hi'
          refine ⟨_, _, _, rfl, by rfl, by rfl, .inl (MK.of tok (wm := false) (by rfl) (by exact byObl) (by rfl) (by exact byObl)), ?_⟩
          refine WA.allT [10] (by kernel_rfl) (by simp) ?_; intro i' hi'; simp only [List.mem_cons, List.not_mem_nil, or_false] at hi'
          subst hi'
          refine ⟨_, _, _, rfl, by rfl, by rfl, .inr ⟨by decide, TK.ofOK (ok_app_keep (f2 := numsF Cn) tok rfl rfl rfl rfl rfl rfl (by decide) rfl rfl rfl (by decide) (fun j _ => (trivial : Pl (numsF Cn j))) (Nat.le_refl _) (by omega) (by omega) rfl rfl)⟩, ?_⟩
          refine WA.takesD T false tok [11, 12] (f' := 0) (by kernel_rfl) (by rfl) (by rfl) (by exact byObl) (by rfl) (by rfl) ?_
          refine WA.end rfl (by kernel_rfl) (noPan ?_)
          refine Ghost.trans (Ghost.fold 6 [0] 4 0 (by rfl) (by rfl) (by simp) (by exact (show (if 0 < 1 + (D.length - a) then some (Dat.sl 4 0 own.length 1) else none) = some (Dat.sl 4 0 own.length 1) from if_pos (by omega))) ⟨Nat.le_refl _, .inl ⟨rfl, rfl, fun _ _ => trivial⟩⟩ (by rfl)) ?_
          exact cut15 6 8 rfl rfl rfl rfl rfl rfl rfl hLn (fun j hj => cons_R2 own D (a) _ _ _ (fun i hi => by rw [Nat.zero_add]) hj) (fun j hj => cons_N 1 Cn (a) _ _ _ rfl (fun i hi => by rw [Nat.zero_add]) (by rw [hCl]; exact hj)) rfl rfl rfl rfl rfl rfl rfl rfl
      · refine ⟨_, _, _, rfl, by rfl, by rfl, .inl (MK.of tok (wm := false) (by rfl) (by exact byObl) (by rfl) (by exact byObl)), ?_⟩
        refine WA.allT [5, 9] (by kernel_rfl) (by simp) ?_; intro i' hi'; simp only [List.mem_cons, List.not_mem_nil, or_false] at hi'
        rcases hi' with rfl | rfl
        · refine ⟨_, _, _, rfl, by rfl, by rfl, .inr ⟨by decide, TK.ofOK (ok_app_keepN (f2 := rowsR D) tok rfl rfl rfl rfl rfl rfl (by decide) rfl rfl rfl (by decide) (fun j _ => noOwn_R _) (Nat.le_refl _) (by omega) (by omega) rfl rfl)⟩, ?_⟩
          refine WA.allT [9] (by kernel_rfl) (by simp) ?_; intro i' hi'; simp only [List.mem_cons, List.not_mem_nil, or_false] at hi'
          subst hi'
          refine ⟨_, _, _, rfl, by rfl, by rfl, .inl (MK.q (sll_ok (l := a) tok rfl rfl rfl rfl rfl rfl rfl (by omega) (by omega))), ?_⟩
          refine WA.allT [10] (by kernel_rfl) (by simp) ?_; intro i' hi'; simp only [List.mem_cons, List.not_mem_nil, or_false] at hi'
          subst hi'
          refine ⟨_, _, _, rfl, by rfl, by rfl, .inr ⟨by decide, TK.ofOK (ok_app_keep (f2 := numsF Cn) tok rfl rfl rfl rfl rfl rfl (by decide) rfl rfl rfl (by decide) (fun j _ => (trivial : Pl (numsF Cn j))) (Nat.le_refl _) (by omega) (by omega) rfl rfl)⟩, ?_⟩
          refine WA.takesD T false tok [11, 12] (f' := 0) (by kernel_rfl) (by rfl) (by rfl) (by exact byObl) (by rfl) (by rfl) ?_
          refine WA.end rfl (by kernel_rfl) (noPan ?_)
          refine Ghost.trans (Ghost.fold 7 [0] 4 0 (by rfl) (by rfl) (by simp) (by exact (show (if 0 < 1 + (D.length - a) then some (Dat.sl 4 0 own.length 1) else none) = some (Dat.sl 4 0 own.length 1) from if_pos (by omega))) ⟨Nat.le_refl _, .inl ⟨rfl, rfl, fun _ _ => trivial⟩⟩ (by rfl)) ?_
          exact cut15 7 8 rfl rfl rfl rfl rfl rfl rfl hLn (fun j hj => cons_R2 own D (a) _ _ _ (fun i hi => by rw [Nat.zero_add]) hj) (fun j hj => cons_N 1 Cn (a) _ _ _ rfl (fun i hi => by rw [Nat.zero_add]) (by rw [hCl]; exact hj)) rfl rfl rfl rfl rfl rfl rfl rfl
        · refine ⟨_, _, _, rfl, by rfl, by rfl, .inl (MK.q (sll_ok (l := a) tok rfl rfl rfl rfl rfl rfl rfl (by omega) (by omega))), ?_⟩
          refine WA.allT [5] (by kernel_rfl) (by simp) ?_; intro i' hi'; simp only [List.mem_cons, List.not_mem_nil, or_false] at hi'
          subst hi'
          refine ⟨_, _, _, rfl, by rfl, by rfl, .inr ⟨by decide, TK.ofOK (ok_app_keepN (f2 := rowsR D) tok rfl rfl rfl rfl rfl rfl (by decide) rfl rfl rfl (by decide) (fun j _ => noOwn_R _) (Nat.le_refl _) (by omega) (by omega) rfl rfl)⟩, ?_⟩
          refine WA.allT [10] (by kernel_rfl) (by simp) ?_; intro i' hi'; simp only [List.mem_cons, List.not_mem_nil, or_false] at hi'
          subst hi'
          refine ⟨_, _, _, rfl, by rfl, by rfl, .inr ⟨by decide, TK.ofOK (ok_app_keep (f2 := numsF Cn) tok rfl rfl rfl rfl rfl rfl (by decide) rfl rfl rfl (by decide) (fun j _ => (trivial : Pl (numsF Cn j))) (Nat.le_refl _) (by omega) (by omega) rfl rfl)⟩, ?_⟩
          refine WA.takesD T false tok [11, 12] (f' := 0) (by kernel_rfl) (by rfl) (by rfl) (by exact byObl) (by rfl) (by rfl) ?_
          refine WA.end rfl (by kernel_rfl) (noPan ?_)
          refine Ghost.trans (Ghost.fold 7 [0] 4 0 (by rfl) (by rfl) (by simp) (by exact (show (if 0 < 1 + (D.length - a) then some (Dat.sl 4 0 own.length 1) else none) = some (Dat.sl 4 0 own.length 1) from if_pos (by omega))) ⟨Nat.le_refl _, .inl ⟨rfl, rfl, fun _ _ => trivial⟩⟩ (by rfl)) ?_
          exact cut15 7 8 rfl rfl rfl rfl rfl rfl rfl hLn (fun j hj => cons_R2 own D (a) _ _ _ (fun i hi => by rw [Nat.zero_add]) hj) (fun j hj => cons_N 1 Cn (a) _ _ _ rfl (fun i hi => by rw [Nat.zero_add]) (by rw [hCl]; exact hj)) rfl rfl rfl rfl rfl rfl rfl rfl
      · refine ⟨_, _, _, rfl, by rfl, by rfl, .inl (MK.q (sll_ok (l := a) tok rfl rfl rfl rfl rfl rfl rfl (by omega) (by omega))), ?_⟩
        refine WA.allT [5, 6] (by kernel_rfl) (by simp) ?_; intro i' hi'; simp only [List.mem_cons, List.not_mem_nil, or_false] at hi'
        rcases hi' with rfl | rfl
        · refine ⟨_, _, _, rfl, by rfl, by rfl, .inr ⟨by decide, TK.ofOK (ok_app_keepN (f2 := rowsR D) tok rfl rfl rfl rfl rfl rfl (by decide) rfl rfl rfl (by decide) (fun j _ => noOwn_R _) (Nat.le_refl _) (by omega) (by omega) rfl rfl)⟩, ?_⟩
          refine WA.allT [6] (by kernel_rfl) (by simp) ?_; intro i' hi'; simp only [List.mem_cons, List.not_mem_nil, or_false] at hi'
          subst hi'
          refine ⟨_, _, _, rfl, by rfl, by rfl, .inl (MK.of tok (wm := false) (by rfl) (by exact byObl) (by rfl) (by exact byObl)), ?_⟩
          refine WA.allT [10] (by kernel_rfl) (by simp) ?_; intro i' hi'; simp only [List.mem_cons, List.not_mem_nil, or_false] at hi'
          subst hi'
          refine ⟨_, _, _, rfl, by rfl, by rfl, .inr ⟨by decide, TK.ofOK (ok_app_keep (f2 := numsF Cn) tok rfl rfl rfl rfl rfl rfl (by decide) rfl rfl rfl (by decide) (fun j _ => (trivial : Pl (numsF Cn j))) (Nat.le_refl _) (by omega) (by omega) rfl rfl)⟩, ?_⟩
          refine WA.takesD T false tok [11, 12] (f' := 0) (by kernel_rfl) (by rfl) (by rfl) (by exact byObl) (by rfl) (by rfl) ?_
          refine WA.end rfl (by kernel_rfl) (noPan ?_)
          refine Ghost.trans (Ghost.fold 6 [0] 4 0 (by rfl) (by rfl) (by simp) (by exact (show (if 0 < 1 + (D.length - a) then some (Dat.sl 4 0 own.length 1) else none) = some (Dat.sl 4 0 own.length 1) from if_pos (by omega))) ⟨Nat.le_refl _, .inl ⟨rfl, rfl, fun _ _ => trivial⟩⟩ (by rfl)) ?_
          exact cut15 6 8 rfl rfl rfl rfl rfl rfl rfl hLn (fun j hj => cons_R2 own D (a) _ _ _ (fun i hi => by rw [Nat.zero_add]) hj) (fun j hj => cons_N 1 Cn (a) _ _ _ rfl (fun i hi => by rw [Nat.zero_add]) (by rw [hCl]; exact hj)) rfl rfl rfl rfl rfl rfl rfl rfl
        · refine ⟨_, _, _, rfl, by rfl, by rfl, .inl (MK.of tok (wm := false) (by rfl) (by exact byObl) (by rfl) (by exact byObl)), ?_⟩
          refine WA.allT [5] (by kernel_rfl) (by simp) ?_; intro i' hi'; simp only [List.mem_cons, List.not_mem_nil, or_false] at hi'
          subst hi'
          refine ⟨_, _, _, rfl, by rfl, by rfl, .inr ⟨by decide, TK.ofOK (ok_app_keepN (f2 := rowsR D) tok rfl rfl rfl rfl rfl rfl (by decide) rfl rfl rfl (by decide) (fun j _ => noOwn_R _) (Nat.le_refl _) (by omega) (by omega) rfl rfl)⟩, ?_⟩
          refine WA.allT [10] (by kernel_rfl) (by simp) ?_; intro i' hi'; simp only [List.mem_cons, List.not_mem_nil, or_false] at hi'
          subst hi'
          refine ⟨_, _, _, rfl, by rfl, by rfl, .inr ⟨by decide, TK.ofOK (ok_app_keep (f2 := numsF Cn) tok rfl rfl rfl rfl rfl rfl (by decide) rfl rfl rfl (by decide) (fun j _ => (trivial : Pl (numsF Cn j))) (Nat.le_refl _) (by omega) (by omega) rfl rfl)⟩, ?_⟩
          refine WA.takesD T false tok [11, 12] (f' := 0) (by kernel_rfl) (by rfl) (by rfl) (by exact byObl) (by rfl) (by rfl) ?_
          refine WA.end rfl (by kernel_rfl) (noPan ?_)
          refine Ghost.trans (Ghost.fold 7 [0] 4 0 (by rfl) (by rfl) (by simp) (by exact (show (if 0 < 1 + (D.length - a) then some (Dat.sl 4 0 own.length 1) else none) = some (Dat.sl 4 0 own.length 1) from if_pos (by omega))) ⟨Nat.le_refl _, .inl ⟨rfl, rfl, fun _ _ => trivial⟩⟩ (by rfl)) ?_
          exact cut15 7 8 rfl rfl rfl rfl rfl rfl rfl hLn (fun j hj => cons_R2 own D (a) _ _ _ (fun i hi => by rw [Nat.zero_add]) hj) (fun j hj => cons_N 1 Cn (a) _ _ _ rfl (fun i hi => by rw [Nat.zero_add]) (by rw [hCl]; exact hj)) rfl rfl rfl rfl rfl rfl rfl rfl
    · refine ⟨_, _, _, rfl, by rfl, by rfl, .inl (MK.of tok (wm := false) (by rfl) (by exact byObl) (by rfl) (by exact byObl)), ?_⟩
      refine WA.allT [4, 9] (by kernel_rfl) (by simp) ?_; intro i' hi'; simp only [List.mem_cons, List.not_mem_nil, or_false] at hi'
      rcases hi' with rfl | rfl
      · refine ⟨_, _, _, rfl, by rfl, by rfl, .inl (MK.q (sll_ok (l := a) tok rfl rfl rfl rfl rfl rfl rfl (by omega) (by omega))), ?_⟩
        refine WA.allT [5, 9] (by kernel_rfl) (by simp) ?_; intro i' hi'; simp only [List.mem_cons, List.not_mem_nil, or_false] at hi'
        rcases hi' with rfl | rfl
        · refine ⟨_, _, _, rfl, by rfl, by rfl, .inr ⟨by decide, TK.ofOK (ok_app_keepN (f2 := rowsR D) tok rfl rfl rfl rfl rfl rfl (by decide) rfl rfl rfl (by decide) (fun j _ => noOwn_R _) (Nat.le_refl _) (by omega) (by omega) rfl rfl)⟩, ?_⟩
          refine WA.allT [9] (by kernel_rfl) (by simp) ?_; intro i' hi'; simp only [List.mem_cons, List.not_mem_nil, or_false] at hi'
          subst hi'
          refine ⟨_, _, _, rfl, by rfl, by rfl, .inl (MK.q (sll_ok (l := a) tok rfl rfl rfl rfl rfl rfl rfl (by omega) (by omega))), ?_⟩
          refine WA.allT [10] (by kernel_rfl) (by simp) ?_; intro i' hi'; simp only [List.mem_cons, List.not_mem_nil, or_false] at hi'
          subst hi'
          refine ⟨_, _, _, rfl, by rfl, by rfl, .inr ⟨by decide, TK.ofOK (ok_app_keep (f2 := numsF Cn) tok rfl rfl rfl rfl rfl rfl (by decide) rfl rfl rfl (by decide) (fun j _ => (trivial : Pl (numsF Cn j))) (Nat.le_refl _) (by omega) (by omega) rfl rfl)⟩, ?_⟩
          refine WA.takesD T false tok [11, 12] (f' := 0) (by kernel_rfl) (by rfl) (by rfl) (by exact byObl) (by rfl) (by rfl) ?_
          refine WA.end rfl (by kernel_rfl) (noPan ?_)
          refine Ghost.trans (Ghost.fold 7 [0] 4 0 (by rfl) (by rfl) (by simp) (by exact (show (if 0 < 1 + (D.length - a) then some (Dat.sl 4 0 own.length 1) else none) = some (Dat.sl 4 0 own.length 1) from if_pos (by omega))) ⟨Nat.le_refl _, .inl ⟨rfl, rfl, fun _ _ => trivial⟩⟩ (by rfl)) ?_
          exact cut15 7 8 rfl rfl rfl rfl rfl rfl rfl hLn (fun j hj => cons_R2 own D (a) _ _ _ (fun i hi => by rw [Nat.zero_add]) hj) (fun j hj => cons_N 1 Cn (a) _ _ _ rfl (fun i hi => by rw [Nat.zero_add]) (by rw [hCl]; exact hj)) rfl rfl rfl rfl rfl rfl rfl rfl
        · refine ⟨_, _, _, rfl, by rfl, by rfl, .inl (MK.q (sll_ok (l := a) tok rfl rfl rfl rfl rfl rfl rfl (by omega) (by omega))), ?_⟩
          refine WA.allT [5] (by kernel_rfl) (by simp) ?_; intro i' hi'; simp only [List.mem_cons, List.not_mem_nil, or_false] at hi'
          subst hi'
          refine ⟨_, _, _, rfl, by rfl, by rfl, .inr ⟨by decide, TK.ofOK (ok_app_keepN (f2 := rowsR D) tok rfl rfl rfl rfl rfl rfl (by decide) rfl rfl rfl (by decide) (fun j _ => noOwn_R _) (Nat.le_refl _) (by omega) (by omega) rfl rfl)⟩, ?_⟩
          refine WA.allT [10] (by kernel_rfl) (by simp) ?_; intro i' hi'; simp only [List.mem_cons, List.not_mem_nil, or_false] at hi'
          subst hi'
          refine ⟨_, _, _, rfl, by rfl, by rfl, .inr ⟨by decide, TK.ofOK (ok_app_keep (f2 := numsF Cn) tok rfl rfl rfl rfl rfl rfl (by decide) rfl rfl rfl (by decide) (fun j _ => (trivial : Pl (numsF Cn j))) (Nat.le_refl _) (by omega) (by omega) rfl rfl)⟩, ?_⟩
          refine WA.takesD T false tok [11, 12] (f' := 0) (by kernel_rfl) (by rfl) (by rfl) (by exact byObl) (by rfl) (by rfl) ?_
          refine WA.end rfl (by kernel_rfl) (noPan ?_)
          refine Ghost.trans (Ghost.fold 7 [0] 4 0 (by rfl) (by rfl) (by simp) (by exact (show (if 0 < 1 + (D.length - a) then some (Dat.sl 4 0 own.length 1) else none) = some (Dat.sl 4 0 own.length 1) from if_pos (by omega))) ⟨Nat.le_refl _, .inl ⟨rfl, rfl, fun _ _ => trivial⟩⟩ (by rfl)) ?_
          exact cut15 7 8 rfl rfl rfl rfl rfl rfl rfl hLn (fun j hj => cons_R2 own D (a) _ _ _ (fun i hi => by rw [Nat.zero_add]) hj) (fun j hj => cons_N 1 Cn (a) _ _ _ rfl (fun i hi => by rw [Nat.zero_add]) (by rw [hCl]; exact hj)) rfl rfl rfl rfl rfl rfl rfl rfl
      · refine ⟨_, _, _, rfl, by rfl, by rfl, .inl (MK.q (sll_ok (l := a) tok rfl rfl rfl rfl rfl rfl rfl (by omega) (by omega))), ?_⟩
        refine WA.allT [4] (by kernel_rfl) (by simp) ?_; intro i' hi'; simp only [List.mem_cons, List.not_mem_nil, or_false] at hi'
        subst hi'
        refine ⟨_, _, _, rfl, by rfl, by rfl, .inl (MK.q (sll_ok (l := a) tok rfl rfl rfl rfl rfl rfl rfl (by omega) (by omega))), ?_⟩
        refine WA.allT [5] (by kernel_rfl) (by simp) ?_; intro i' hi'; simp only [List.mem_cons, List.not_mem_nil, or_false] at hi'
        subst hi'
        refine ⟨_, _, _, rfl, by rfl, by rfl, .inr ⟨by decide, TK.ofOK (ok_app_keepN (f2 := rowsR D) tok rfl rfl rfl rfl rfl rfl (by decide) rfl rfl rfl (by decide) (fun j _ => noOwn_R _) (Nat.le_refl _) (by omega) (by omega) rfl rfl)⟩, ?_⟩
        refine WA.allT [10] (by kernel_rfl) (by simp) ?_; intro i' hi'; simp only [List.mem_cons, List.not_mem_nil, or_false] at hi'
        subst hi'
        refine ⟨_, _, _, rfl, by rfl, by rfl, .inr ⟨by decide, TK.ofOK (ok_app_keep (f2 := numsF Cn) tok rfl rfl rfl rfl rfl rfl (by decide) rfl rfl rfl (by decide) (fun j _ => (trivial : Pl (numsF Cn j))) (Nat.le_refl _) (by omega) (by omega) rfl rfl)⟩, ?_⟩
        refine WA.takesD T false tok [11, 12] (f' := 0) (by kernel_rfl) (by rfl) (by rfl) (by exact byObl) (by rfl) (by rfl) ?_
        refine WA.end rfl (by kernel_rfl) (noPan ?_)
        refine Ghost.trans (Ghost.fold 7 [0] 4 0 (by rfl) (by rfl) (by simp) (by exact (show (if 0 < 1 + (D.length - a) then some (Dat.sl 4 0 own.length 1) else none) = some (Dat.sl 4 0 own.length 1) from if_pos (by omega))) ⟨Nat.le_refl _, .inl ⟨rfl, rfl, fun _ _ => trivial⟩⟩ (by rfl)) ?_
        exact cut15 7 8 rfl rfl rfl rfl rfl rfl rfl hLn (fun j hj => cons_R2 own D (a) _ _ _ (fun i hi => by rw [Nat.zero_add]) hj) (fun j hj => cons_N 1 Cn (a) _ _ _ rfl (fun i hi => by rw [Nat.zero_add]) (by rw [hCl]; exact hj)) rfl rfl rfl rfl rfl rfl rfl rfl
    · refine ⟨_, _, _, rfl, by rfl, by rfl, .inl (MK.q (sll_ok (l := a) tok rfl rfl rfl rfl rfl rfl rfl (by omega) (by omega))), ?_⟩
      refine WA.allT [4, 6] (by kernel_rfl) (by simp) ?_; intro i' hi'; simp only [List.mem_cons, List.not_mem_nil, or_false] at hi'
      rcases hi' with rfl | rfl
      · refine ⟨_, _, _, rfl, by rfl, by rfl, .inl (MK.q (sll_ok (l := a) tok rfl rfl rfl rfl rfl rfl rfl (by omega) (by omega))), ?_⟩
        refine WA.allT [5, 6] (by kernel_rfl) (by simp) ?_; intro i' hi'; simp only [List.mem_cons, List.not_mem_nil, or_false] at hi'
        rcases hi' with rfl | rfl
        · refine ⟨_, _, _, rfl, by rfl, by rfl, .inr ⟨by decide, TK.ofOK (ok_app_keepN (f2 := rowsR D) tok rfl rfl rfl rfl rfl rfl (by decide) rfl rfl rfl (by decide) (fun j _ => noOwn_R _) (Nat.le_refl _) (by omega) (by omega) rfl rfl)⟩, ?_⟩
          refine WA.allT [6] (by kernel_rfl) (by simp) ?_; intro i' hi'; simp only [List.mem_cons, List.not_mem_nil, or_false] at hi'
          subst hi'
          refine ⟨_, _, _, rfl, by rfl, by rfl, .inl (MK.of tok (wm := false) (by rfl) (by exact byObl) (by rfl) (by exact byObl)), ?_⟩
          refine WA.allT [10] (by kernel_rfl) (by simp) ?_; intro i' hi'; simp only [List.mem_cons, List.not_mem_nil, or_false] at hi'
          subst hi'
          refine ⟨_, _, _, rfl, by rfl, by rfl, .inr ⟨by decide, TK.ofOK (ok_app_keep (f2 := numsF Cn) tok rfl rfl rfl rfl rfl rfl (by decide) rfl rfl rfl (by decide) (fun j _ => (trivial : Pl (numsF Cn j))) (Nat.le_refl _) (by omega) (by omega) rfl rfl)⟩, ?_⟩
          refine WA.takesD T false tok [11, 12] (f' := 0) (by kernel_rfl) (by rfl) (by rfl) (by exact byObl) (by rfl) (by rfl) ?_
          refine WA.end rfl (by kernel_rfl) (noPan ?_)
          refine Ghost.trans (Ghost.fold 6 [0] 4 0 (by rfl) (by rfl) (by simp) (by exact (show (if 0 < 1 + (D.length - a) then some (Dat.sl 4 0 own.length 1) else none) = some (Dat.sl 4 0 own.length 1) from if_pos (by omega))) ⟨Nat.le_refl _, .inl ⟨rfl, rfl, fun _ _ => trivial⟩⟩ (by rfl)) ?_
          exact cut15 6 8 rfl rfl rfl rfl rfl rfl rfl hLn (fun j hj => cons_R2 own D (a) _ _ _ (fun i hi => by rw [Nat.zero_add]) hj) (fun j hj => cons_N 1 Cn (a) _ _ _ rfl (fun i hi => by rw [Nat.zero_add]) (by rw [hCl]; exact hj)) rfl rfl rfl rfl rfl rfl rfl rfl
        · refine ⟨_, _, _, rfl, by rfl, by rfl, .inl (MK.of tok (wm := false) (by rfl) (by exact byObl) (by rfl) (by exact byObl)), ?_⟩
          refine WA.allT [5] (by kernel_rfl) (by simp) ?_; intro i' hi'; simp only [List.mem_cons, List.not_mem_nil, or_false] at hi'
          subst hi'
          refine ⟨_, _, _, rfl, by rfl, by rfl, .inr ⟨by decide, TK.ofOK (ok_app_keepN (f2 := rowsR D) tok rfl rfl rfl rfl rfl rfl (by decide) rfl rfl rfl (by decide) (fun j _ => noOwn_R _) (Nat.le_refl _) (by omega) (by omega) rfl rfl)⟩, ?_⟩
          refine WA.allT [10] (by kernel_rfl) (by simp) ?_; intro i' hi'; simp only [List.mem_cons, List.not_mem_nil, or_false] at hi'
          subst hi'
          refine ⟨_, _, _, rfl, by rfl, by rfl, .inr ⟨by decide, TK.ofOK (ok_app_keep (f2 := numsF Cn) tok rfl rfl rfl rfl rfl rfl (by decide) rfl rfl rfl (by decide) (fun j _ => (trivial : Pl (numsF Cn j))) (Nat.le_refl _) (by omega) (by omega) rfl rfl)⟩, ?_⟩
          refine WA.takesD T false tok [11, 12] (f' := 0) (by kernel_rfl) (by rfl) (by rfl) (by exact byObl) (by rfl) (by rfl) ?_
          refine WA.end rfl (by kernel_rfl) (noPan ?_)
          refine Ghost.trans (Ghost.fold 7 [0] 4 0 (by rfl) (by rfl) (by simp) (by exact (show (if 0 < 1 + (D.length - a) then some (Dat.sl 4 0 own.length 1) else none) = some (Dat.sl 4 0 own.length 1) from if_pos (by omega))) ⟨Nat.le_refl _, .inl ⟨rfl, rfl, fun _ _ => trivial⟩⟩ (by rfl)) ?_
          exact cut15 7 8 rfl rfl rfl rfl rfl rfl rfl hLn (fun j hj => cons_R2 own D (a) _ _ _ (fun i hi => by rw [Nat.zero_add]) hj) (fun j hj => cons_N 1 Cn (a) _ _ _ rfl (fun i hi => by rw [Nat.zero_add]) (by rw [hCl]; exact hj)) rfl rfl rfl rfl rfl rfl rfl rfl
      · refine ⟨_, _, _, rfl, by rfl, by rfl, .inl (MK.of tok (wm := false) (by rfl) (by exact byObl) (by rfl) (by exact byObl)), ?_⟩
        refine WA.allT [4] (by kernel_rfl) (by simp) ?_; intro i' hi'; simp only [List.mem_cons, List.not_mem_nil, or_false] at hi'
        subst hi'
        refine ⟨_, _, _, rfl, by rfl, by rfl, .inl (MK.q (sll_ok (l := a) tok rfl rfl rfl rfl rfl rfl rfl (by omega) (by omega))), ?_⟩
        refine WA.allT [5] (by kernel_rfl) (by simp) ?_; intro i' hi'; simp only [List.mem_cons, List.not_mem_nil, or_false] at hi'
        subst hi'
        refine ⟨_, _, _, rfl, by rfl, by rfl, .inr ⟨by decide, TK.ofOK (ok_app_keepN (f2 := rowsR D) tok rfl rfl rfl rfl rfl rfl (by decide) rfl rfl rfl (by decide) (fun j _ => noOwn_R _) (Nat.le_refl _) (by omega) (by omega) rfl rfl)⟩, ?_⟩
        refine WA.allT [10] (by kernel_rfl) (by simp) ?_; intro i' hi'; simp only [List.mem_cons, List.not_mem_nil, or_false] at hi'
        subst hi'
        refine ⟨_, _, _, rfl, by rfl, by rfl, .inr ⟨by decide, TK.ofOK (ok_app_keep (f2 := numsF Cn) tok rfl rfl rfl rfl rfl rfl (by decide) rfl rfl rfl (by decide) (fun j _ => (trivial : Pl (numsF Cn j))) (Nat.le_refl _) (by omega) (by omega) rfl rfl)⟩, ?_⟩
        refine WA.takesD T false tok [11, 12] (f' := 0) (by kernel_rfl) (by rfl) (by rfl) (by exact byObl) (by rfl) (by rfl) ?_
        refine WA.end rfl (by kernel_rfl) (noPan ?_)
        refine Ghost.trans (Ghost.fold 7 [0] 4 0 (by rfl) (by rfl) (by simp) (by exact (show (if 0 < 1 + (D.length - a) then some (Dat.sl 4 0 own.length 1) else none) = some (Dat.sl 4 0 own.length 1) from if_pos (by omega))) ⟨Nat.le_refl _, .inl ⟨rfl, rfl, fun _ _ => trivial⟩⟩ (by rfl)) ?_
        exact cut15 7 8 rfl rfl rfl rfl rfl rfl rfl hLn (fun j hj => cons_R2 own D (a) _ _ _ (fun i hi => by rw [Nat.zero_add]) hj) (fun j hj => cons_N 1 Cn (a) _ _ _ rfl (fun i hi => by rw [Nat.zero_add]) (by rw [hCl]; exact hj)) rfl rfl rfl rfl rfl rfl rfl rfl
  · refine ⟨_, _, _, rfl, by rfl, by rfl, .inl (MK.q (sll_ok (l := a) tok rfl rfl rfl rfl rfl rfl rfl (by omega) (by omega))), ?_⟩
    refine WA.allT [1, 6, 9] (by kernel_rfl) (by simp) ?_; intro i' hi'; simp only [List.mem_cons, List.not_mem_nil, or_false] at hi'
    rcases hi' with rfl | rfl | rfl
    · refine ⟨_, _, _, rfl, by rfl, by rfl, .inl (MK.of tok (wm := false) (by rfl) (by exact byObl) (by rfl) (by exact byObl)), ?_⟩
      refine WA.allT [5, 6, 9] (by kernel_rfl) (by simp) ?_; intro i' hi'; simp only [List.mem_cons, List.not_mem_nil, or_false] at hi'
      rcases hi' with rfl | rfl | rfl
      · refine ⟨_, _, _, rfl, by rfl, by rfl, .inr ⟨by decide, TK.ofOK (ok_app_keepN (f2 := rowsR D) tok rfl rfl rfl rfl rfl rfl (by decide) rfl rfl rfl (by decide) (fun j _ => noOwn_R _) (Nat.le_refl _) (by omega) (by omega) rfl rfl)⟩, ?_⟩
        refine WA.allT [6, 9] (by kernel_rfl) (by simp) ?_; intro i' hi'; simp only [List.mem_cons, List.not_mem_nil, or_false] at hi'
        rcases hi' with rfl | rfl
        · refine ⟨_, _, _, rfl, by rfl, by rfl, .inl (MK.of tok (wm := false) (by rfl) (by exact byObl) (by rfl) (by exact byObl)), ?_⟩
          refine WA.allT [9] (by kernel_rfl) (by simp) ?_; intro i' hi'; simp only [List.mem_cons, List.not_mem_nil, or_false] at hi'
          subst hi'
          refine ⟨_, _, _, rfl, by rfl, by rfl, .inl (MK.q (sll_ok (l := a) tok rfl rfl rfl rfl rfl rfl rfl (by omega) (by omega))), ?_⟩
          refine WA.allT [10] (by kernel_rfl) (by simp) ?_; intro i' hi'; simp only [List.mem_cons, List.not_mem_nil, or_false] at hi'
          subst hi'
          refine ⟨_, _, _, rfl, by rfl, by rfl, .inr ⟨by decide, TK.ofOK (ok_app_keep (f2 := numsF Cn) tok rfl rfl rfl rfl rfl rfl (by decide) rfl rfl rfl (by decide) (fun j _ => (trivial : Pl (numsF Cn j))) (Nat.le_refl _) (by omega) (by omega) rfl rfl)⟩, ?_⟩
          refine WA.takesD T false tok [11, 12] (f' := 0) (by kernel_rfl) (by rfl) (by rfl) (by exact byObl) (by rfl) (by rfl) ?_
          refine WA.end rfl (by kernel_rfl) (noPan ?_)
          refine Ghost.trans (Ghost.fold 6 [0] 4 0 (by rfl) (by rfl) (by simp) (by exact (show (if 0 < 1 + (D.length - a) then some (Dat.sl 4 0 own.length 1) else none) = some (Dat.sl 4 0 own.length 1) from if_pos (by omega))) ⟨Nat.le_refl _, .inl ⟨rfl, rfl, fun _ _ => trivial⟩⟩ (by rfl)) ?_
          exact cut15 6 8 rfl rfl rfl rfl rfl rfl rfl hLn (fun j hj => cons_R2 own D (a) _ _ _ (fun i hi => by rw [Nat.zero_add]) hj) (fun j hj => cons_N 1 Cn (a) _ _ _ rfl (fun i hi => by rw [Nat.zero_add]) (by rw [hCl]; exact hj)) rfl rfl rfl rfl rfl rfl rfl rfl
        · refine ⟨_, _, _, rfl, by rfl, by rfl, .inl (MK.q (sll_ok (l := a) tok rfl rfl rfl rfl rfl rfl rfl (by omega) (by omega))), ?_⟩
          refine WA.allT [6] (by kernel_rfl) (by simp) ?_; intro i' hi'; simp only [List.mem_cons, List.not_mem_nil, or_false] at hi'
          subst hi'
          refine ⟨_, _, _, rfl, by rfl, by rfl, .inl (MK.of tok (wm := false) (by rfl) (by exact byObl) (by rfl) (by exact byObl)), ?_⟩
          refine WA.allT [10] (by kernel_rfl) (by simp) ?_; intro i' hi'; simp only [List.mem_cons, List.not_mem_nil, or_false] at hi'
          subst hi'
          refine ⟨_, _, _, rfl, by rfl, by rfl, .inr ⟨by decide, TK.ofOK (ok_app_keep (f2 := numsF Cn) tok rfl rfl rfl rfl rfl rfl (by decide) rfl rfl rfl (by decide) (fun j _ => (trivial : Pl (numsF Cn j))) (Nat.le_refl _) (by omega) (by omega) rfl rfl)⟩, ?_⟩
          refine WA.takesD T false tok [11, 12] (f' := 0) (by kernel_rfl) (by rfl) (by rfl) (by exact byObl) (by rfl) (by rfl) ?_
          refine WA.end rfl (by kernel_rfl) (noPan ?_)
          refine Ghost.trans (Ghost.fold 6 [0] 4 0 (by rfl) (by rfl) (by simp) (by exact (show (if 0 < 1 + (D.length - a) then some (Dat.sl 4 0 own.length 1) else none) = some (Dat.sl 4 0 own.length 1) from if_pos (by omega))) ⟨Nat.le_refl _, .inl ⟨rfl, rfl, fun _ _ => trivial⟩⟩ (by rfl)) ?_
          exact cut15 6 8 rfl rfl rfl rfl rfl rfl rfl hLn (fun j hj => cons_R2 own D (a) _ _ _ (fun i hi => by rw [Nat.zero_add]) hj) (fun j hj => cons_N 1 Cn (a) _ _ _ rfl (fun i hi => by rw [Nat.zero_add]) (by rw [hCl]; exact hj)) rfl rfl rfl rfl rfl rfl rfl rfl
      · refine ⟨_, _, _, rfl, by rfl, by rfl, .inl (MK.of tok (wm := false) (by rfl) (by exact byObl) (by rfl) (by exact byObl)), ?_⟩
        refine WA.allT [5, 9] (by kernel_rfl) (by simp) ?_; intro i' hi'; simp only [List.mem_cons, List.not_mem_nil, or_false] at hi'
        rcases hi' with rfl | rfl
        · refine ⟨_, _, _, rfl, by rfl, by rfl, .inr ⟨by decide, TK.ofOK (ok_app_keepN (f2 := rowsR D) tok rfl rfl rfl rfl rfl rfl (by decide) rfl rfl rfl (by decide) (fun j _ => noOwn_R _) (Nat.le_refl _) (by omega) (by omega) rfl rfl)⟩, ?_⟩
          refine WA.allT [9] (by kernel_rfl) (by simp) ?_; intro i' hi'; simp only [List.mem_cons, List.not_mem_nil, or_false] at hi'
          subst hi'
          refine ⟨_, _, _, rfl, by rfl, by rfl, .inl (MK.q (sll_ok (l := a) tok rfl rfl rfl rfl rfl rfl rfl (by omega) (by omega))), ?_⟩
          refine WA.allT [10] (by kernel_rfl) (by simp) ?_; intro i' hi'; simp only [List.mem_cons, List.not_mem_nil, or_false] at hi'
          subst hi'
          refine ⟨_, _, _, rfl, by rfl, by rfl, .inr ⟨by decide, TK.ofOK (ok_app_keep (f2 := numsF Cn) tok rfl rfl rfl rfl rfl rfl (by decide) rfl rfl rfl (by decide) (fun j _ => (trivial : Pl (numsF Cn j))) (Nat.le_refl _) (by omega) (by omega) rfl rfl)⟩, ?_⟩
          refine WA.takesD T false tok [11, 12] (f' := 0) (by kernel_rfl) (by rfl) (by rfl) (by exact byObl) (by rfl) (by rfl) ?_
          refine WA.end rfl (by kernel_rfl) (noPan ?_)
          refine Ghost.trans (Ghost.fold 7 [0] 4 0 (by rfl) (by rfl) (by simp) (by exact (show (if 0 < 1 + (D.length - a) then some (Dat.sl 4 0 own.length 1) else none) = some (Dat.sl 4 0 own.length 1) from if_pos (by omega))) ⟨Nat.le_refl _, .inl ⟨rfl, rfl, fun _ _ => trivial⟩⟩ (by rfl)) ?_
          exact cut15 7 8 rfl rfl rfl rfl rfl rfl rfl hLn (fun j hj => cons_R2 own D (a) _ _ _ (fun i hi => by rw [Nat.zero_add]) hj) (fun j hj => cons_N 1 Cn (a) _ _ _ rfl (fun i hi => by rw [Nat.zero_add]) (by rw [hCl]; exact hj)) rfl rfl rfl rfl rfl rfl rfl rfl
        · refine ⟨_, _, _, rfl, by rfl, by rfl, .inl (MK.q (sll_ok (l := a) tok rfl rfl rfl rfl rfl rfl rfl (by omega) (by omega))), ?_⟩
          refine WA.allT [5] (by kernel_rfl) (by simp) ?_; intro i' hi'; simp only [List.mem_cons, List.not_mem_nil, or_false] at hi'
          subst hi'
          refine ⟨_, _, _, rfl, by rfl, by rfl, .inr ⟨by decide, TK.ofOK (ok_app_keepN (f2 := rowsR D) tok rfl rfl rfl rfl rfl rfl (by decide) rfl rfl rfl (by decide) (fun j _ => noOwn_R _) (Nat.le_refl _) (by omega) (by omega) rfl rfl)⟩, ?_⟩
          refine WA.allT [10] (by kernel_rfl) (by simp) ?_; intro i' hi'; simp only [List.mem_cons, List.not_mem_nil, or_false] at hi'
          subst hi'
          refine ⟨_, _, _, rfl, by rfl, by rfl, .inr ⟨by decide, TK.ofOK (ok_app_keep (f2 := numsF Cn) tok rfl rfl rfl rfl rfl rfl (by decide) rfl rfl rfl (by decide) (fun j _ => (trivial : Pl (numsF Cn j))) (Nat.le_refl _) (by omega) (by omega) rfl rfl)⟩, ?_⟩
          refine WA.takesD T false tok [11, 12] (f' := 0) (by kernel_rfl) (by rfl) (by rfl) (by exact byObl) (by rfl) (by rfl) ?_
          refine WA.end rfl (by kernel_rfl) (noPan ?_)
          refine Ghost.trans (Ghost.fold 7 [0] 4 0 (by rfl) (by rfl) (by simp) (by exact (show (if 0 < 1 + (D.length - a) then some (Dat.sl 4 0 own.length 1) else none) = some (Dat.sl 4 0 own.length 1) from if_pos (by omega))) ⟨Nat.le_refl _, .inl ⟨rfl, rfl, fun _ _ => trivial⟩⟩ (by rfl)) ?_
          exact cut15 7 8 rfl rfl rfl rfl rfl rfl rfl hLn (fun j hj => cons_R2 own D (a) _ _ _ (fun i hi => by rw [Nat.zero_add]) hj) (fun j hj => cons_N 1 Cn (a) _ _ _ rfl (fun i hi => by rw [Nat.zero_add]) (by rw [hCl]; exact hj)) rfl rfl rfl rfl rfl rfl rfl rfl
      · refine ⟨_, _, _, rfl, by rfl, by rfl, .inl (MK.q (sll_ok (l := a) tok rfl rfl rfl rfl rfl rfl rfl (by omega) (by omega))), ?_⟩
        refine WA.allT [5, 6] (by kernel_rfl) (by simp) ?_; intro i' hi'; simp only [List.mem_cons, List.not_mem_nil, or_false] at hi'
        rcases hi' with rfl | rfl
        · refine ⟨_, _, _, rfl, by rfl, by rfl, .inr ⟨by decide, TK.ofOK (ok_app_keepN (f2 := rowsR D) tok rfl rfl rfl rfl rfl rfl (by decide) rfl rfl rfl (by decide) (fun j _ => noOwn_R _) (Nat.le_refl _) (by omega) (by omega) rfl rfl)⟩, ?_⟩
          refine WA.allT [6] (by kernel_rfl) (by simp) ?_; intro i' hi'; simp only [List.mem_cons, List.not_mem_nil, or_false] at hi'
          subst hi'
          refine ⟨_, _, _, rfl, by rfl, by rfl, .inl (MK.of tok (wm := false) (by rfl) (by exact byObl) (by rfl) (by exact byObl)), ?_⟩
          refine WA.allT [10] (by kernel_rfl) (by simp) ?_; intro i' hi'; simp only [List.mem_cons, List.not_mem_nil, or_false] at hi'
          subst hi'
          refine ⟨_, _, _, rfl, by rfl, by rfl, .inr ⟨by decide, TK.ofOK (ok_app_keep (f2 := numsF Cn) tok rfl rfl rfl rfl rfl rfl (by decide) rfl rfl rfl (by decide) (fun j _ => (trivial : Pl (numsF Cn j))) (Nat.le_refl _) (by omega) (by omega) rfl rfl)⟩, ?_⟩
          refine WA.takesD T false tok [11, 12] (f' := 0) (by kernel_rfl) (by rfl) (by rfl) (by exact byObl) (by rfl) (by rfl) ?_
          refine WA.end rfl (by kernel_rfl) (noPan ?_)
          refine Ghost.trans (Ghost.fold 6 [0] 4 0 (by rfl) (by rfl) (by simp) (by exact (show (if 0 < 1 + (D.length - a) then some (Dat.sl 4 0 own.length 1) else none) = some (Dat.sl 4 0 own.length 1) from if_pos (by omega))) ⟨Nat.le_refl _, .inl ⟨rfl, rfl, fun _ _ => trivial⟩⟩ (by rfl)) ?_
          exact cut15 6 8 rfl rfl rfl rfl rfl rfl rfl hLn (fun j hj => cons_R2 own D (a) _ _ _ (fun i hi => by rw [Nat.zero_add]) hj) (fun j hj => cons_N 1 Cn (a) _ _ _ rfl (fun i hi => by rw [Nat.zero_add]) (by rw [hCl]; exact hj)) rfl rfl rfl rfl rfl rfl rfl rfl
        · refine ⟨_, _, _, rfl, by rfl, by rfl, .inl (MK.of tok (wm := false) (by rfl) (by exact byObl) (by rfl) (by exact byObl)), ?_⟩
          refine WA.allT [5] (by kernel_rfl) (by simp) ?_; intro i' hi'; simp only [List.mem_cons, List.not_mem_nil, or_false] at hi'
          subst hi'
          refine ⟨_, _, _, rfl, by rfl, by rfl, .inr ⟨by decide, TK.ofOK (ok_app_keepN (f2 := rowsR D) tok rfl rfl rfl rfl rfl rfl (by decide) rfl rfl rfl (by decide) (fun j _ => noOwn_R _) (Nat.le_refl _) (by omega) (by omega) rfl rfl)⟩, ?_⟩
          refine WA.allT [10] (by kernel_rfl) (by simp) ?_; intro i' hi'; simp only [List.mem_cons, List.not_mem_nil, or_false] at hi'
          subst hi'
          refine ⟨_, _, _, rfl, by rfl, by rfl, .inr ⟨by decide, TK.ofOK (ok_app_keep (f2 := numsF Cn) tok rfl rfl rfl rfl rfl rfl (by decide) rfl rfl rfl (by decide) (fun j _ => (trivial : Pl (numsF Cn j))) (Nat.le_refl _) (by omega) (by omega) rfl rfl)⟩, ?_⟩
          refine WA.takesD T false tok [11, 12] (f' := 0) (by kernel_rfl) (by rfl) (by rfl) (by exact byObl) (by rfl) (by rfl) ?_
          refine WA.end rfl (by kernel_rfl) (noPan ?_)
          refine Ghost.trans (Ghost.fold 7 [0] 4 0 (by rfl) (by rfl) (by simp) (by exact (show (if 0 < 1 + (D.length - a) then some (Dat.sl 4 0 own.length 1) else none) = some (Dat.sl 4 0 own.length 1) from if_pos (by omega))) ⟨Nat.le_refl _, .inl ⟨rfl, rfl, fun _ _ => trivial⟩⟩ (by rfl)) ?_
          exact cut15 7 8 rfl rfl rfl rfl rfl rfl rfl hLn (fun j hj => cons_R2 own D (a) _ _ _ (fun i hi => by rw [Nat.zero_add]) hj) (fun j hj => cons_N 1 Cn (a) _ _ _ rfl (fun i hi => by rw [Nat.zero_add]) (by rw [hCl]; exact hj)) rfl rfl rfl rfl rfl rfl rfl rfl
    · refine ⟨_, _, _, rfl, by rfl, by rfl, .inl (MK.of tok (wm := false) (by rfl) (by exact byObl) (by rfl) (by exact byObl)), ?_⟩
      refine WA.allT [1, 9] (by kernel_rfl) (by simp) ?_; intro i' hi'; simp only [List.mem_cons, List.not_mem_nil, or_false] at hi'
      rcases hi' with rfl | rfl
      · refine ⟨_, _, _, rfl, by rfl, by rfl, .inl (MK.of tok (wm := false) (by rfl) (by exact byObl) (by rfl) (by exact byObl)), ?_⟩
        refine WA.allT [5, 9] (by kernel_rfl) (by simp) ?_; intro i' hi'; simp only [List.mem_cons, List.not_mem_nil, or_false] at hi'
        rcases hi' with rfl | rfl
        · refine ⟨_, _, _, rfl, by rfl, by rfl, .inr ⟨by decide, TK.ofOK (ok_app_keepN (f2 := rowsR D) tok rfl rfl rfl rfl rfl rfl (by decide) rfl rfl rfl (by decide) (fun j _ => noOwn_R _) (Nat.le_refl _) (by omega) (by omega) rfl rfl)⟩, ?_⟩
          refine WA.allT [9] (by kernel_rfl) (by simp) ?_; intro i' hi'; simp only [List.mem_cons, List.not_mem_nil, or_false] at hi'
          subst hi'
          refine ⟨_, _, _, rfl, by rfl, by rfl, .inl (MK.q (sll_ok (l := a) tok rfl rfl rfl rfl rfl rfl rfl (by omega) (by omega))), ?_⟩
          refine WA.allT [10] (by kernel_rfl) (by simp) ?_; intro i' hi'; simp only [List.mem_cons, List.not_mem_nil, or_false] at hi'
          subst hi'
          refine ⟨_, _, _, rfl, by rfl, by rfl, .inr ⟨by decide, TK.ofOK (ok_app_keep (f2 := numsF Cn) tok rfl rfl rfl rfl rfl rfl (by decide) rfl rfl rfl (by decide) (fun j _ => (trivial : Pl (numsF Cn j))) (Nat.le_refl _) (by omega) (by omega) rfl rfl)⟩, ?_⟩
          refine WA.takesD T false tok [11, 12] (f' := 0) (by kernel_rfl) (by rfl) (by rfl) (by exact byObl) (by rfl) (by rfl) ?_
          refine WA.end rfl (by kernel_rfl) (noPan ?_)
          refine Ghost.trans (Ghost.fold 7 [0] 4 0 (by rfl) (by rfl) (by simp) (by exact (show (if 0 < 1 + (D.length - a) then some (Dat.sl 4 0 own.length 1) else none) = some (Dat.sl 4 0 own.length 1) from if_pos (by omega))) ⟨Nat.le_refl _, .inl ⟨rfl, rfl, fun _ _ => trivial⟩⟩ (by rfl)) ?_
          exact cut15 7 8 rfl rfl rfl rfl rfl rfl rfl hLn (fun j hj => cons_R2 own D (a) _ _ _ (fun i hi => by rw [Nat.zero_add]) hj) (fun j hj => cons_N 1 Cn (a) _ _ _ rfl (fun i hi => by rw [Nat.zero_add]) (by rw [hCl]; exact hj)) rfl rfl rfl rfl rfl rfl rfl rfl
        · refine ⟨_, _, _, rfl, by rfl, by rfl, .inl (MK.q (sll_ok (l := a) tok rfl rfl rfl rfl rfl rfl rfl (by omega) (by omega))), ?_⟩
          refine WA.allT [5] (by kernel_rfl) (by simp) ?_; intro i' hi'; simp only [List.mem_cons, List.not_mem_nil, or_false] at hi'
          subst hi'
          refine ⟨_, _, _, rfl, by rfl, by rfl, .inr ⟨by decide, TK.ofOK (ok_app_keepN (f2 := rowsR D) tok rfl rfl rfl rfl rfl rfl (by decide) rfl rfl rfl (by decide) (fun j _ => noOwn_R _) (Nat.le_refl _) (by omega) (by omega) rfl rfl)⟩, ?_⟩
          refine WA.allT [10] (by kernel_rfl) (by simp) ?_; intro i' hi'; simp only [List.mem_cons, List.not_mem_nil, or_false] at hi'
          subst hi'
          refine ⟨_, _, _, rfl, by rfl, by rfl, .inr ⟨by decide, TK.ofOK (ok_app_keep (f2 := numsF Cn) tok rfl rfl rfl rfl rfl rfl (by decide) rfl rfl rfl (by decide) (fun j _ => (trivial : Pl (numsF Cn j))) (Nat.le_refl _) (by omega) (by omega) rfl rfl)⟩, ?_⟩
          refine WA.takesD T false tok [11, 12] (f' := 0) (by kernel_rfl) (by rfl) (by rfl) (by exact byObl) (by rfl) (by rfl) ?_
          refine WA.end rfl (by kernel_rfl) (noPan ?_)
          refine Ghost.trans (Ghost.fold 7 [0] 4 0 (by rfl) (by rfl) (by simp) (by exact (show (if 0 < 1 + (D.length - a) then some (Dat.sl 4 0 own.length 1) else none) = some (Dat.sl 4 0 own.length 1) from if_pos (by omega))) ⟨Nat.le_refl _, .inl ⟨rfl, rfl, fun _ _ => trivial⟩⟩ (by rfl)) ?_
          exact cut15 7 8 rfl rfl rfl rfl rfl rfl rfl hLn (fun j hj => cons_R2 own D (a) _ _ _ (fun i hi => by rw [Nat.zero_add]) hj) (fun j hj => cons_N 1 Cn (a) _ _ _ rfl (fun i hi => by rw [Nat.zero_add]) (by rw [hCl]; exact hj)) rfl rfl rfl rfl rfl rfl rfl rfl
      · refine ⟨_, _, _, rfl, by rfl, by rfl, .inl (MK.q (sll_ok (l := a) tok rfl rfl rfl rfl rfl rfl rfl (by omega) (by omega))), ?_⟩
        refine WA.allT [1] (by kernel_rfl) (by simp) ?_; intro i' hi'; simp only [List.mem_cons, List.not_mem_nil, or_false] at hi'
        subst hi'
        refine ⟨_, _, _, rfl, by rfl, by rfl, .inl (MK.of tok (wm := false) (by rfl) (by exact byObl) (by rfl) (by exact byObl)), ?_⟩
        refine WA.allT [5] (by kernel_rfl) (by simp) ?_; intro i' hi'; simp only [List.mem_cons, List.not_mem_nil, or_false] at hi'
        subst hi'
        refine ⟨_, _, _, rfl, by rfl, by rfl, .inr ⟨by decide, TK.ofOK (ok_app_keepN (f2 := rowsR D) tok rfl rfl rfl rfl rfl rfl (by decide) rfl rfl rfl (by decide) (fun j _ => noOwn_R _) (Nat.le_refl _) (by omega) (by omega) rfl rfl)⟩, ?_⟩
        refine WA.allT [10] (by kernel_rfl) (by simp) ?_; intro i' hi'; simp only [List.mem_cons, List.not_mem_nil, or_false] at hi'
        subst hi'
        refine ⟨_, _, _, rfl, by rfl, by rfl, .inr ⟨by decide, TK.ofOK (ok_app_keep (f2 := numsF Cn) tok rfl rfl rfl rfl rfl rfl (by decide) rfl rfl rfl (by decide) (fun j _ => (trivial : Pl (numsF Cn j))) (Nat.le_refl _) (by omega) (by omega) rfl rfl)⟩, ?_⟩
        refine WA.takesD T false tok [11, 12] (f' := 0) (by kernel_rfl) (by rfl) (by rfl) (by exact byObl) (by rfl) (by rfl) ?_
        refine WA.end rfl (by kernel_rfl) (noPan ?_)
        refine Ghost.trans (Ghost.fold 7 [0] 4 0 (by rfl) (by rfl) (by simp) (by exact (show (if 0 < 1 + (D.length - a) then some (Dat.sl 4 0 own.length 1) else none) = some (Dat.sl 4 0 own.length 1) from if_pos (by omega))) ⟨Nat.le_refl _, .inl ⟨rfl, rfl, fun _ _ => trivial⟩⟩ (by rfl)) ?_
        exact cut15 7 8 rfl rfl rfl rfl rfl rfl rfl hLn (fun j hj => cons_R2 own D (a) _ _ _ (fun i hi => by rw [Nat.zero_add]) hj) (fun j hj => cons_N 1 Cn (a) _ _ _ rfl (fun i hi => by rw [Nat.zero_add]) (by rw [hCl]; exact hj)) rfl rfl rfl rfl rfl rfl rfl rfl
    · refine ⟨_, _, _, rfl, by rfl, by rfl, .inl (MK.q (sll_ok (l := a) tok rfl rfl rfl rfl rfl rfl rfl (by omega) (by omega))), ?_⟩
      refine WA.allT [1, 6] (by kernel_rfl) (by simp) ?_; intro i' hi'; simp only [List.mem_cons, List.not_mem_nil, or_false] at hi'
      rcases hi' with rfl | rfl
      · refine ⟨_, _, _, rfl, by rfl, by rfl, .inl (MK.of tok (wm := false) (by rfl) (by exact byObl) (by rfl) (by exact byObl)), ?_⟩
        refine WA.allT [5, 6] (by kernel_rfl) (by simp) ?_; intro i' hi'; simp only [List.mem_cons, List.not_mem_nil, or_false] at hi'
        rcases hi' with rfl | rfl
        · refine ⟨_, _, _, rfl, by rfl, by rfl, .inr ⟨by decide, TK.ofOK (ok_app_keepN (f2 := rowsR D) tok rfl rfl rfl rfl rfl rfl (by decide) rfl rfl rfl (by decide) (fun j _ => noOwn_R _) (Nat.le_refl _) (by omega) (by omega) rfl rfl)⟩, ?_⟩
          refine WA.allT [6] (by kernel_rfl) (by simp) ?_; intro i' hi'; simp only [List.mem_cons, List.not_mem_nil, or_false] at hi'
          subst hi'
          refine ⟨_, _, _, rfl, by rfl, by rfl, .inl (MK.of tok (wm := false) (by rfl) (by exact byObl) (by rfl) (by exact byObl)), ?_⟩
          refine WA.allT [10] (by kernel_rfl) (by simp) ?_; intro i' hi'; simp only [List.mem_cons, List.not_mem_nil, or_false] at hi'
          subst hi'
          refine ⟨_, _, _, rfl, by rfl, by rfl, .inr ⟨by decide, TK.ofOK (ok_app_keep (f2 := numsF Cn) tok rfl rfl rfl rfl rfl rfl (by decide) rfl rfl rfl (by decide) (fun j _ => (trivial : Pl (numsF Cn j))) (Nat.le_refl _) (by omega) (by omega) rfl rfl)⟩, ?_⟩
          refine WA.takesD T false tok [11, 12] (f' := 0) (by kernel_rfl) (by rfl) (by rfl) (by exact byObl) (by rfl) (by rfl) ?_
          refine WA.end rfl (by kernel_rfl) (noPan ?_)
          refine Ghost.trans (Ghost.fold 6 [0] 4 0 (by rfl) (by rfl) (by simp) (by exact (show (if 0 < 1 + (D.length - a) then some (Dat.sl 4 0 own.length 1) else none) = some (Dat.sl 4 0 own.length 1) from if_pos (by omega))) ⟨Nat.le_refl _, .inl ⟨rfl, rfl, fun _ _ => trivial⟩⟩ (by rfl)) ?_
          exact cut15 6 8 rfl rfl rfl rfl rfl rfl rfl hLn (fun j hj => cons_R2 own D (a) _ _ _ (fun i hi => by rw [Nat.zero_add]) hj) (fun j hj => cons_N 1 Cn (a) _ _ _ rfl (fun i hi => by rw [Nat.zero_add]) (by rw [hCl]; exact hj)) rfl rfl rfl rfl rfl rfl rfl rfl
        · refine ⟨_, _, _, rfl, by rfl, by rfl, .inl (MK.of tok (wm := false) (by rfl) (by exact byObl) (by rfl) (by exact byObl)), ?_⟩
          refine WA.allT [5] (by kernel_rfl) (by simp) ?_; intro i' hi'; simp only [List.mem_cons, List.not_mem_nil, or_false] at hi'
          subst hi'
          refine ⟨_, _, _, rfl, by rfl, by rfl, .inr ⟨by decide, TK.ofOK (ok_app_keepN (f2 := rowsR D) tok rfl rfl rfl rfl rfl rfl (by decide) rfl rfl rfl (by decide) (fun j _ => noOwn_R _) (Nat.le_refl _) (by omega) (by omega) rfl rfl)⟩, ?_⟩
          refine WA.allT [10] (by kernel_rfl) (by simp) ?_; intro i' hi'; simp only [List.mem_cons, List.not_mem_nil, or_false] at hi'
          subst hi'
          refine ⟨_, _, _, rfl, by rfl, by rfl, .inr ⟨by decide, TK.ofOK (ok_app_keep (f2 := numsF Cn) tok rfl rfl rfl rfl rfl rfl (by decide) rfl rfl rfl (by decide) (fun j _ => (trivial : Pl (numsF Cn j))) (Nat.le_refl _) (by omega) (by omega) rfl rfl)⟩, ?_⟩
          refine WA.takesD T false tok [11, 12] (f' := 0) (by kernel_rfl) (by rfl) (by rfl) (by exact byObl) (by rfl) (by rfl) ?_
          refine WA.end rfl (by kernel_rfl) (noPan ?_)
          refine Ghost.trans (Ghost.fold 7 [0] 4 0 (by rfl) (by rfl) (by simp) (by exact (show (if 0 < 1 + (D.length - a) then some (Dat.sl 4 0 own.length 1) else none) = some (Dat.sl 4 0 own.length 1) from if_pos (by omega))) ⟨Nat.le_refl _, .inl ⟨rfl, rfl, fun _ _ => trivial⟩⟩ (by rfl)) ?_
          exact cut15 7 8 rfl rfl rfl rfl rfl rfl rfl hLn (fun j hj => cons_R2 own D (a) _ _ _ (fun i hi => by rw [Nat.zero_add]) hj) (fun j hj => cons_N 1 Cn (a) _ _ _ rfl (fun i hi => by rw [Nat.zero_add]) (by rw [hCl]; exact hj)) rfl rfl rfl rfl rfl rfl rfl rfl
      · refine ⟨_, _, _, rfl, by rfl, by rfl, .inl (MK.of tok (wm := false) (by rfl) (by exact byObl) (by rfl) (by exact byObl)), ?_⟩
        refine WA.allT [1] (by kernel_rfl) (by simp) ?_; intro i' hi'; simp only [List.mem_cons, List.not_mem_nil, or_false] at hi'
        subst hi'
        refine ⟨_, _, _, rfl, by rfl, by rfl, .inl (MK.of tok (wm := false) (by rfl) (by exact byObl) (by rfl) (by exact byObl)), ?_⟩
        refine WA.allT [5] (by kernel_rfl) (by simp) ?_; intro i' hi'; simp only [List.mem_cons, List.not_mem_nil, or_false] at hi'
        subst hi'
        refine ⟨_, _, _, rfl, by rfl, by rfl, .inr ⟨by decide, TK.ofOK (ok_app_keepN (f2 := rowsR D) tok rfl rfl rfl rfl rfl rfl (by decide) rfl rfl rfl (by decide) (fun j _ => noOwn_R _) (Nat.le_refl _) (by omega) (by omega) rfl rfl)⟩, ?_⟩
        refine WA.allT [10] (by kernel_rfl) (by simp) ?_; intro i' hi'; simp only [List.mem_cons, List.not_mem_nil, or_false] at hi'
        subst hi'
        refine ⟨_, _, _, rfl, by rfl, by rfl, .inr ⟨by decide, TK.ofOK (ok_app_keep (f2 := numsF Cn) tok rfl rfl rfl rfl rfl rfl (by decide) rfl rfl rfl (by decide) (fun j _ => (trivial : Pl (numsF Cn j))) (Nat.le_refl _) (by omega) (by omega) rfl rfl)⟩, ?_⟩
        refine WA.takesD T false tok [11, 12] (f' := 0) (by kernel_rfl) (by rfl) (by rfl) (by exact byObl) (by rfl) (by rfl) ?_
        refine WA.end rfl (by kernel_rfl) (noPan ?_)
        refine Ghost.trans (Ghost.fold 7 [0] 4 0 (by rfl) (by rfl) (by simp) (by exact (show (if 0 < 1 + (D.length - a) then some (Dat.sl 4 0 own.length 1) else none) = some (Dat.sl 4 0 own.length 1) from if_pos (by omega))) ⟨Nat.le_refl _, .inl ⟨rfl, rfl, fun _ _ => trivial⟩⟩ (by rfl)) ?_
        exact cut15 7 8 rfl rfl rfl rfl rfl rfl rfl hLn (fun j hj => cons_R2 own D (a) _ _ _ (fun i hi => by rw [Nat.zero_add]) hj) (fun j hj => cons_N 1 Cn (a) _ _ _ rfl (fun i hi => by rw [Nat.zero_add]) (by rw [hCl]; exact hj)) rfl rfl rfl rfl rfl rfl rfl rfl
  · refine ⟨_, _, _, rfl, by rfl, by rfl, .inl (MK.of tok (wm := false) (by rfl) (by exact byObl) (by rfl) (by exact byObl)), ?_⟩
    refine WA.allT [1, 4, 9] (by kernel_rfl) (by simp) ?_; intro i' hi'; simp only [List.mem_cons, List.not_mem_nil, or_false] at hi'
    rcases hi' with rfl | rfl | rfl
    · refine ⟨_, _, _, rfl, by rfl, by rfl, .inl (MK.of tok (wm := false) (by rfl) (by exact byObl) (by rfl) (by exact byObl)), ?_⟩
      refine WA.allT [4, 9] (by kernel_rfl) (by simp) ?_; intro i' hi'; simp only [List.mem_cons, List.not_mem_nil, or_false] at hi'
      rcases hi' with rfl | rfl
      · refine ⟨_, _, _, rfl, by rfl, by rfl, .inl (MK.q (sll_ok (l := a) tok rfl rfl rfl rfl rfl rfl rfl (by omega) (by omega))), ?_⟩
        refine WA.allT [5, 9] (by kernel_rfl) (by simp) ?_; intro i' hi'; simp only [List.mem_cons, List.not_mem_nil, or_false] at hi'
        rcases hi' with rfl | rfl
        · refine ⟨_, _, _, rfl, by rfl, by rfl, .inr ⟨by decide, TK.ofOK (ok_app_keepN (f2 := rowsR D) tok rfl rfl rfl rfl rfl rfl (by decide) rfl rfl rfl (by decide) (fun j _ => noOwn_R _) (Nat.le_refl _) (by omega) (by omega) rfl rfl)⟩, ?_⟩
          refine WA.allT [9] (by kernel_rfl) (by simp) ?_; intro i' hi'; simp only [List.mem_cons, List.not_mem_nil, or_false] at hi'
          subst hi'
          refine ⟨_, _, _, rfl, by rfl, by rfl, .inl (MK.q (sll_ok (l := a) tok rfl rfl rfl rfl rfl rfl rfl (by omega) (by omega))), ?_⟩
          refine WA.allT [10] (by kernel_rfl) (by simp) ?_; intro i' hi'; simp only [List.mem_cons, List.not_mem_nil, or_false] at hi'
          subst hi'
          refine ⟨_, _, _, rfl, by rfl, by rfl, .inr ⟨by decide, TK.ofOK (ok_app_keep (f2 := numsF Cn) tok rfl rfl rfl rfl rfl rfl (by decide) rfl rfl rfl (by decide) (fun j _ => (trivial : Pl (numsF Cn j))) (Nat.le_refl _) (by omega) (by omega) rfl rfl)⟩, ?_⟩
          refine WA.takesD T false tok [11, 12] (f' := 0) (by kernel_rfl) (by rfl) (by rfl) (by exact byObl) (by rfl) (by rfl) ?_
          refine WA.end rfl (by kernel_rfl) (noPan ?_)
          refine Ghost.trans (Ghost.fold 7 [0] 4 0 (by rfl) (by rfl) (by simp) (by exact (show (if 0 < 1 + (D.length - a) then some (Dat.sl 4 0 own.length 1) else none) = some (Dat.sl 4 0 own.length 1) from if_pos (by omega))) ⟨Nat.le_refl _, .inl ⟨rfl, rfl, fun _ _ => trivial⟩⟩ (by rfl)) ?_
          exact cut15 7 8 rfl rfl rfl rfl rfl rfl rfl hLn (fun j hj => cons_R2 own D (a) _ _ _ (fun i hi => by rw [Nat.zero_add]) hj) (fun j hj => cons_N 1 Cn (a) _ _ _ rfl (fun i hi => by rw [Nat.zero_add]) (by rw [hCl]; exact hj)) rfl rfl rfl rfl rfl rfl rfl rfl
        · refine ⟨_, _, _, rfl, by rfl, by rfl, .inl (MK.q (sll_ok (l := a) tok rfl rfl rfl rfl rfl rfl rfl (by omega) (by omega))), ?_⟩
          refine WA.allT [5] (by kernel_rfl) (by simp) ?_; intro i' hi'; simp only [List.mem_cons, List.not_mem_nil, or_false] at hi'
          subst hi'
          refine ⟨_, _, _, rfl, by rfl, by rfl, .inr ⟨by decide, TK.ofOK (ok_app_keepN (f2 := rowsR D) tok rfl rfl rfl rfl rfl rfl (by decide) rfl rfl rfl (by decide) (fun j _ => noOwn_R _) (Nat.le_refl _) (by omega) (by omega) rfl rfl)⟩, ?_⟩
          refine WA.allT [10] (by kernel_rfl) (by simp) ?_; intro i' hi'; simp only [List.mem_cons, List.not_mem_nil, or_false] at hi'
          subst hi'
          refine ⟨_, _, _, rfl, by rfl, by rfl, .inr ⟨by decide, TK.ofOK (ok_app_keep (f2 := numsF Cn) tok rfl rfl rfl rfl rfl rfl (by decide) rfl rfl rfl (by decide) (fun j _ => (trivial : Pl (numsF Cn j))) (Nat.le_refl _) (by omega) (by omega) rfl rfl)⟩, ?_⟩
          refine WA.takesD T false tok [11, 12] (f' := 0) (by kernel_rfl) (by rfl) (by rfl) (by exact byObl) (by rfl) (by rfl) ?_
          refine WA.end rfl (by kernel_rfl) (noPan ?_)
          refine Ghost.trans (Ghost.fold 7 [0] 4 0 (by rfl) (by rfl) (by simp) (by exact (show (if 0 < 1 + (D.length - a) then some (Dat.sl 4 0 own.length 1) else none) = some (Dat.sl 4 0 own.length 1) from if_pos (by omega))) ⟨Nat.le_refl _, .inl ⟨rfl, rfl, fun _ _ => trivial⟩⟩ (by rfl)) ?_
          exact cut15 7 8 rfl rfl rfl rfl rfl rfl rfl hLn (fun j hj => cons_R2 own D (a) _ _ _ (fun i hi => by rw [Nat.zero_add]) hj) (fun j hj => cons_N 1 Cn (a) _ _ _ rfl (fun i hi => by rw [Nat.zero_add]) (by rw [hCl]; exact hj)) rfl rfl rfl rfl rfl rfl rfl rfl
      · refine ⟨_, _, _, rfl, by rfl, by rfl, .inl (MK.q (sll_ok (l := a) tok rfl rfl rfl rfl rfl rfl rfl (by omega) (by omega))), ?_⟩
        refine WA.allT [4] (by kernel_rfl) (by simp) ?_; intro i' hi'; simp only [List.mem_cons, List.not_mem_nil, or_false] at hi'
        subst hi'
        refine ⟨_, _, _, rfl, by rfl, by rfl, .inl (MK.q (sll_ok (l := a) tok rfl rfl rfl rfl rfl rfl rfl (by omega) (by omega))), ?_⟩
        refine WA.allT [5] (by kernel_rfl) (by simp) ?_; intro i' hi'; simp only [List.mem_cons, List.not_mem_nil, or_false] at hi'
        subst hi'
        refine ⟨_, _, _, rfl, by rfl, by rfl, .inr ⟨by decide, TK.ofOK (ok_app_keepN (f2 := rowsR D) tok rfl rfl rfl rfl rfl rfl (by decide) rfl rfl rfl (by decide) (fun j _ => noOwn_R _) (Nat.le_refl _) (by omega) (by omega) rfl rfl)⟩, ?_⟩
        refine WA.allT [10] (by kernel_rfl) (by simp) ?_; intro i' hi'; simp only [List.mem_cons, List.not_mem_nil, or_false] at hi'
        subst hi'
        refine ⟨_, _, _, rfl, by rfl, by rfl, .inr ⟨by decide, TK.ofOK (ok_app_keep (f2 := numsF Cn) tok rfl rfl rfl rfl rfl rfl (by decide) rfl rfl rfl (by decide) (fun j _ => (trivial : Pl (numsF Cn j))) (Nat.le_refl _) (by omega) (by omega) rfl rfl)⟩, ?_⟩
        refine WA.takesD T false tok [11, 12] (f' := 0) (by kernel_rfl) (by rfl) (by rfl) (by exact byObl) (by rfl) (by rfl) ?_
        refine WA.end rfl (by kernel_rfl) (noPan ?_)
        refine Ghost.trans (Ghost.fold 7 [0] 4 0 (by rfl) (by rfl) (by simp) (by exact (show (if 0 < 1 + (D.length - a) then some (Dat.sl 4 0 own.length 1) else none) = some (Dat.sl 4 0 own.length 1) from if_pos (by omega))) ⟨Nat.le_refl _, .inl ⟨rfl, rfl, fun _ _ => trivial⟩⟩ (by rfl)) ?_
        exact cut15 7 8 rfl rfl rfl rfl rfl rfl rfl hLn (fun j hj => cons_R2 own D (a) _ _ _ (fun i hi => by rw [Nat.zero_add]) hj) (fun j hj => cons_N 1 Cn (a) _ _ _ rfl (fun i hi => by rw [Nat.zero_add]) (by rw [hCl]; exact hj)) rfl rfl rfl rfl rfl rfl rfl rfl
    · refine ⟨_, _, _, rfl, by rfl, by rfl, .inl (MK.q (sll_ok (l := a) tok rfl rfl rfl rfl rfl rfl rfl (by omega) (by omega))), ?_⟩
      refine WA.allT [1, 9] (by kernel_rfl) (by simp) ?_; intro i' hi'; simp only [List.mem_cons, List.not_mem_nil, or_false] at hi'
      rcases hi' with rfl | rfl
      · refine ⟨_, _, _, rfl, by rfl, by rfl, .inl (MK.of tok (wm := false) (by rfl) (by exact byObl) (by rfl) (by exact byObl)), ?_⟩
        refine WA.allT [5, 9] (by kernel_rfl) (by simp) ?_; intro i' hi'; simp only [List.mem_cons, List.not_mem_nil, or_false] at hi'
        rcases hi' with rfl | rfl
        · refine ⟨_, _, _, rfl, by rfl, by rfl, .inr ⟨by decide, TK.ofOK (ok_app_keepN (f2 := rowsR D) tok rfl rfl rfl rfl rfl rfl (by decide) rfl rfl rfl (by decide) (fun j _ => noOwn_R _) (Nat.le_refl _) (by omega) (by omega) rfl rfl)⟩, ?_⟩
          refine WA.allT [9] (by kernel_rfl) (by simp) ?_; intro i' hi'; simp only [List.mem_cons, List.not_mem_nil, or_false] at hi'
          subst hi'
          refine ⟨_, _, _, rfl, by rfl, by rfl, .inl (MK.q (sll_ok (l := a) tok rfl rfl rfl rfl rfl rfl rfl (by omega) (by omega))), ?_⟩
          refine WA.allT [10] (by kernel_rfl) (by simp) ?_; intro i' hi'; simp only [List.mem_cons, List.not_mem_nil, or_false] at hi'
          subst hi'
          refine ⟨_, _, _, rfl, by rfl, by rfl, .inr ⟨by decide, TK.ofOK (ok_app_keep (f2 := numsF Cn) tok rfl rfl rfl rfl rfl rfl (by decide) rfl rfl rfl (by decide) (fun j _ => (trivial : Pl (numsF Cn j))) (Nat.le_refl _) (by omega) (by omega) rfl rfl)⟩, ?_⟩
          refine WA.takesD T false tok [11, 12] (f' := 0) (by kernel_rfl) (by rfl) (by rfl) (by exact byObl) (by rfl) (by rfl) ?_
          refine WA.end rfl (by kernel_rfl) (noPan ?_)
          refine Ghost.trans (Ghost.fold 7 [0] 4 0 (by rfl) (by rfl) (by simp) (by exact (show (if 0 < 1 + (D.length - a) then some (Dat.sl 4 0 own.length 1) else none) = some (Dat.sl 4 0 own.length 1) from if_pos (by omega))) ⟨Nat.le_refl _, .inl ⟨rfl, rfl, fun _ _ => trivial⟩⟩ (by rfl)) ?_
          exact cut15 7 8 rfl rfl rfl rfl rfl rfl rfl hLn (fun j hj => cons_R2 own D (a) _ _ _ (fun i hi => by rw [Nat.zero_add]) hj) (fun j hj => cons_N 1 Cn (a) _ _ _ rfl (fun i hi => by rw [Nat.zero_add]) (by rw [hCl]; exact hj)) rfl rfl rfl rfl rfl rfl rfl rfl
        · refine ⟨_, _, _, rfl, by rfl, by rfl, .inl (MK.q (sll_ok (l := a) tok rfl rfl rfl rfl rfl rfl rfl (by omega) (by omega))), ?_⟩
          refine WA.allT [5] (by kernel_rfl) (by simp) ?_; intro i' hi'; simp only [List.mem_cons, List.not_mem_nil, or_false] at hi'
          subst hi'
          refine ⟨_, _, _, rfl, by rfl, by rfl, .inr ⟨by decide, TK.ofOK (ok_app_keepN (f2 := rowsR D) tok rfl rfl rfl rfl rfl rfl (by decide) rfl rfl rfl (by decide) (fun j _ => noOwn_R _) (Nat.le_refl _) (by omega) (by omega) rfl rfl)⟩, ?_⟩
          refine WA.allT [10] (by kernel_rfl) (by simp) ?_; intro i' hi'; simp only [List.mem_cons, List.not_mem_nil, or_false] at hi'
          subst hi'
          refine ⟨_, _, _, rfl, by rfl, by rfl, .inr ⟨by decide, TK.ofOK (ok_app_keep (f2 := numsF Cn) tok rfl rfl rfl rfl rfl rfl (by decide) rfl rfl rfl (by decide) (fun j _ => (trivial : Pl (numsF Cn j))) (Nat.le_refl _) (by omega) (by omega) rfl rfl)⟩, ?_⟩
          refine WA.takesD T false tok [11, 12] (f' := 0) (by kernel_rfl) (by rfl) (by rfl) (by exact byObl) (by rfl) (by rfl) ?_
          refine WA.end rfl (by kernel_rfl) (noPan ?_)
          refine Ghost.trans (Ghost.fold 7 [0] 4 0 (by rfl) (by rfl) (by simp) (by exact (show (if 0 < 1 + (D.length - a) then some (Dat.sl 4 0 own.length 1) else none) = some (Dat.sl 4 0 own.length 1) from if_pos (by omega))) ⟨Nat.le_refl _, .inl ⟨rfl, rfl, fun _ _ => trivial⟩⟩ (by rfl)) ?_
          exact cut15 7 8 rfl rfl rfl rfl rfl rfl rfl hLn (fun j hj => cons_R2 own D (a) _ _ _ (fun i hi => by rw [Nat.zero_add]) hj) (fun j hj => cons_N 1 Cn (a) _ _ _ rfl (fun i hi => by rw [Nat.zero_add]) (by rw [hCl]; exact hj)) rfl rfl rfl rfl rfl rfl rfl rfl
      · refine ⟨_, _, _, rfl, by rfl, by rfl, .inl (MK.q (sll_ok (l := a) tok rfl rfl rfl rfl rfl rfl rfl (by omega) (by omega))), ?_⟩
        refine WA.allT [1] (by kernel_rfl) (by simp) ?_; intro i' hi'; simp only [List.mem_cons, List.not_mem_nil, or_false] at hi'
        subst hi'
        refine ⟨_, _, _, rfl, by rfl, by rfl, .inl (MK.of tok (wm := false) (by rfl) (by exact byObl) (by rfl) (by exact byObl)), ?_⟩
        refine WA.allT [5] (by kernel_rfl) (by simp) ?_; intro i' hi'; simp only [List.mem_cons, List.not_mem_nil, or_false] at hi'
        subst hi'
        refine ⟨_, _, _, rfl, by rfl, by rfl, .inr ⟨by decide, TK.ofOK (ok_app_keepN (f2 := rowsR D) tok rfl rfl rfl rfl rfl rfl (by decide) rfl rfl rfl (by decide) (fun j _ => noOwn_R _) (Nat.le_refl _) (by omega) (by omega) rfl rfl)⟩, ?_⟩
        refine WA.allT [10] (by kernel_rfl) (by simp) ?_; intro i' hi'; simp only [List.mem_cons, List.not_mem_nil, or_false] at hi'
        subst hi'
        refine ⟨_, _, _, rfl, by rfl, by rfl, .inr ⟨by decide, TK.ofOK (ok_app_keep (f2 := numsF Cn) tok rfl rfl rfl rfl rfl rfl (by decide) rfl rfl rfl (by decide) (fun j _ => (trivial : Pl (numsF Cn j))) (Nat.le_refl _) (by omega) (by omega) rfl rfl)⟩, ?_⟩
        refine WA.takesD T false tok [11, 12] (f' := 0) (by kernel_rfl) (by rfl) (by rfl) (by exact byObl) (by rfl) (by rfl) ?_
        refine WA.end rfl (by kernel_rfl) (noPan ?_)
        refine Ghost.trans (Ghost.fold 7 [0] 4 0 (by rfl) (by rfl) (by simp) (by exact (show (if 0 < 1 + (D.length - a) then some (Dat.sl 4 0 own.length 1) else none) = some (Dat.sl 4 0 own.length 1) from if_pos (by omega))) ⟨Nat.le_refl _, .inl ⟨rfl, rfl, fun _ _ => trivial⟩⟩ (by rfl)) ?_
        exact cut15 7 8 rfl rfl rfl rfl rfl rfl rfl hLn (fun j hj => cons_R2 own D (a) _ _ _ (fun i hi => by rw [Nat.zero_add]) hj) (fun j hj => cons_N 1 Cn (a) _ _ _ rfl (fun i hi => by rw [Nat.zero_add]) (by rw [hCl]; exact hj)) rfl rfl rfl rfl rfl rfl rfl rfl
    · refine ⟨_, _, _, rfl, by rfl, by rfl, .inl (MK.q (sll_ok (l := a) tok rfl rfl rfl rfl rfl rfl rfl (by omega) (by omega))), ?_⟩
      refine WA.allT [1, 4] (by kernel_rfl) (by simp) ?_; intro i' hi'; simp only [List.mem_cons, List.not_mem_nil, or_false] at hi'
      rcases hi' with rfl | rfl
      · refine ⟨_, _, _, rfl, by rfl, by rfl, .inl (MK.of tok (wm := false) (by rfl) (by exact byObl) (by rfl) (by exact byObl)), ?_⟩
        refine WA.allT [4] (by kernel_rfl) (by simp) ?_; intro i' hi'; simp only [List.mem_cons, List.not_mem_nil, or_false] at hi'
        subst hi'
        refine ⟨_, _, _, rfl, by rfl, by rfl, .inl (MK.q (sll_ok (l := a) tok rfl rfl rfl rfl rfl rfl rfl (by omega) (by omega))), ?_⟩
        refine WA.allT [5] (by kernel_rfl) (by simp) ?_; intro i' hi'; simp only [List.mem_cons, List.not_mem_nil, or_false] at hi'
        subst hi'
        refine ⟨_, _, _, rfl, by rfl, by rfl, .inr ⟨by decide, TK.ofOK (ok_app_keepN (f2 := rowsR D) tok rfl rfl rfl rfl rfl rfl (by decide) rfl rfl rfl (by decide) (fun j _ => noOwn_R _) (Nat.le_refl _) (by omega) (by omega) rfl rfl)⟩, ?_⟩
        refine WA.allT [10] (by kernel_rfl) (by simp) ?_; intro i' hi'; simp only [List.mem_cons, List.not_mem_nil, or_false] at hi'
        subst hi'
        refine ⟨_, _, _, rfl, by rfl, by rfl, .inr ⟨by decide, TK.ofOK (ok_app_keep (f2 := numsF Cn) tok rfl rfl rfl rfl rfl rfl (by decide) rfl rfl rfl (by decide) (fun j _ => (trivial : Pl (numsF Cn j))) (Nat.le_refl _) (by omega) (by omega) rfl rfl)⟩, ?_⟩
        refine WA.takesD T false tok [11, 12] (f' := 0) (by kernel_rfl) (by rfl) (by rfl) (by exact byObl) (by rfl) (by rfl) ?_
        refine WA.end rfl (by kernel_rfl) (noPan ?_)
        refine Ghost.trans (Ghost.fold 7 [0] 4 0 (by rfl) (by rfl) (by simp) (by exact (show (if 0 < 1 + (D.length - a) then some (Dat.sl 4 0 own.length 1) else none) = some (Dat.sl 4 0 own.length 1) from if_pos (by omega))) ⟨Nat.le_refl _, .inl ⟨rfl, rfl, fun _ _ => trivial⟩⟩ (by rfl)) ?_
        exact cut15 7 8 rfl rfl rfl rfl rfl rfl rfl hLn (fun j hj => cons_R2 own D (a) _ _ _ (fun i hi => by rw [Nat.zero_add]) hj) (fun j hj => cons_N 1 Cn (a) _ _ _ rfl (fun i hi => by rw [Nat.zero_add]) (by rw [hCl]; exact hj)) rfl rfl rfl rfl rfl rfl rfl rfl
      · refine ⟨_, _, _, rfl, by rfl, by rfl, .inl (MK.q (sll_ok (l := a) tok rfl rfl rfl rfl rfl rfl rfl (by omega) (by omega))), ?_⟩
        refine WA.allT [1] (by kernel_rfl) (by simp) ?_; intro i' hi'; simp only [List.mem_cons, List.not_mem_nil, or_false] at hi'
        subst hi'
        refine ⟨_, _, _, rfl, by rfl, by rfl, .inl (MK.of tok (wm := false) (by rfl) (by exact byObl) (by rfl) (by exact byObl)), ?_⟩
        refine WA.allT [5] (by kernel_rfl) (by simp) ?_; intro i' hi'; simp only [List.mem_cons, List.not_mem_nil, or_false] at hi'
        subst hi'
        refine ⟨_, _, _, rfl, by rfl, by rfl, .inr ⟨by decide, TK.ofOK (ok_app_keepN (f2 := rowsR D) tok rfl rfl rfl rfl rfl rfl (by decide) rfl rfl rfl (by decide) (fun j _ => noOwn_R _) (Nat.le_refl _) (by omega) (by omega) rfl rfl)⟩, ?_⟩
        refine WA.allT [10] (by kernel_rfl) (by simp) ?_; intro i' hi'; simp only [List.mem_cons, List.not_mem_nil, or_false] at hi'
        subst hi'
        refine ⟨_, _, _, rfl, by rfl, by rfl, .inr ⟨by decide, TK.ofOK (ok_app_keep (f2 := numsF Cn) tok rfl rfl rfl rfl rfl rfl (by decide) rfl rfl rfl (by decide) (fun j _ => (trivial : Pl (numsF Cn j))) (Nat.le_refl _) (by omega) (by omega) rfl rfl)⟩, ?_⟩
        refine WA.takesD T false tok [11, 12] (f' := 0) (by kernel_rfl) (by rfl) (by rfl) (by exact byObl) (by rfl) (by rfl) ?_
        refine WA.end rfl (by kernel_rfl) (noPan ?_)
        refine Ghost.trans (Ghost.fold 7 [0] 4 0 (by rfl) (by rfl) (by simp) (by exact (show (if 0 < 1 + (D.length - a) then some (Dat.sl 4 0 own.length 1) else none) = some (Dat.sl 4 0 own.length 1) from if_pos (by omega))) ⟨Nat.le_refl _, .inl ⟨rfl, rfl, fun _ _ => trivial⟩⟩ (by rfl)) ?_
        exact cut15 7 8 rfl rfl rfl rfl rfl rfl rfl hLn (fun j hj => cons_R2 own D (a) _ _ _ (fun i hi => by rw [Nat.zero_add]) hj) (fun j hj => cons_N 1 Cn (a) _ _ _ rfl (fun i hi => by rw [Nat.zero_add]) (by rw [hCl]; exact hj)) rfl rfl rfl rfl rfl rfl rfl rfl
  · refine ⟨_, _, _, rfl, by rfl, by rfl, .inl (MK.q (sll_ok (l := a) tok rfl rfl rfl rfl rfl rfl rfl (by omega) (by omega))), ?_⟩
    refine WA.allT [1, 4, 6] (by kernel_rfl) (by simp) ?_; intro i' hi'; simp only [List.mem_cons, List.not_mem_nil, or_false] at hi'
    rcases hi' with rfl | rfl | rfl
    · refine ⟨_, _, _, rfl, by rfl, by rfl, .inl (MK.of tok (wm := false) (by rfl) (by exact byObl) (by rfl) (by exact byObl)), ?_⟩
      refine WA.allT [4, 6] (by kernel_rfl) (by simp) ?_; intro i' hi'; simp only [List.mem_cons, List.not_mem_nil, or_false] at hi'
      rcases hi' with rfl | rfl
      · refine ⟨_, _, _, rfl, by rfl, by rfl, .inl (MK.q (sll_ok (l := a) tok rfl rfl rfl rfl rfl rfl rfl (by omega) (by omega))), ?_⟩
        refine WA.allT [5, 6] (by kernel_rfl) (by simp) ?_; intro i' hi'; simp only [List.mem_cons, List.not_mem_nil, or_false] at hi'
        rcases hi' with rfl | rfl
        · refine ⟨_, _, _, rfl, by rfl, by rfl, .inr ⟨by decide, TK.ofOK (ok_app_keepN (f2 := rowsR D) tok rfl rfl rfl rfl rfl rfl (by decide) rfl rfl rfl (by decide) (fun j _ => noOwn_R _) (Nat.le_refl _) (by omega) (by omega) rfl rfl)⟩, ?_⟩
          refine WA.allT [6] (by kernel_rfl) (by simp) ?_; intro i' hi'; simp only [List.mem_cons, List.not_mem_nil, or_false] at hi'
          subst hi'
          refine ⟨_, _, _, rfl, by rfl, by rfl, .inl (MK.of tok (wm := false) (by rfl) (by exact byObl) (by rfl) (by exact byObl)), ?_⟩
          refine WA.allT [10] (by kernel_rfl) (by simp) ?_; intro i' hi'; simp only [List.mem_cons, List.not_mem_nil, or_false] at hi'
          subst hi'
          refine ⟨_, _, _, rfl, by rfl, by rfl, .inr ⟨by decide, TK.ofOK (ok_app_keep (f2 := numsF Cn) tok rfl rfl rfl rfl rfl rfl (by decide) rfl rfl rfl (by decide) (fun j _ => (trivial : Pl (numsF Cn j))) (Nat.le_refl _) (by omega) (by omega) rfl rfl)⟩, ?_⟩
          refine WA.takesD T false tok [11, 12] (f' := 0) (by kernel_rfl) (by rfl) (by rfl) (by exact byObl) (by rfl) (by rfl) ?_
          refine WA.end rfl (by kernel_rfl) (noPan ?_)
          refine Ghost.trans (Ghost.fold 6 [0] 4 0 (by rfl) (by rfl) (by simp) (by exact (show (if 0 < 1 + (D.length - a) then some (Dat.sl 4 0 own.length 1) else none) = some (Dat.sl 4 0 own.length 1) from if_pos (by omega))) ⟨Nat.le_refl _, .inl ⟨rfl, rfl, fun _ _ => trivial⟩⟩ (by rfl)) ?_
          exact cut15 6 8 rfl rfl rfl rfl rfl rfl rfl hLn (fun j hj => cons_R2 own D (a) _ _ _ (fun i hi => by rw [Nat.zero_add]) hj) (fun j hj => cons_N 1 Cn (a) _ _ _ rfl (fun i hi => by rw [Nat.zero_add]) (by rw [hCl]; exact hj)) rfl rfl rfl rfl rfl rfl rfl rfl
        · refine ⟨_, _, _, rfl, by rfl, by rfl, .inl (MK.of tok (wm := false) (by rfl) (by exact byObl) (by rfl) (by exact byObl)), ?_⟩
          refine WA.allT [5] (by kernel_rfl) (by simp) ?_; intro i' hi'; simp only [List.mem_cons, List.not_mem_nil, or_false] at hi'
          subst hi'
          refine ⟨_, _, _, rfl, by rfl, by rfl, .inr ⟨by decide, TK.ofOK (ok_app_keepN (f2 := rowsR D) tok rfl rfl rfl rfl rfl rfl (by decide) rfl rfl rfl (by decide) (fun j _ => noOwn_R _) (Nat.le_refl _) (by omega) (by omega) rfl rfl)⟩, ?_⟩
          refine WA.allT [10] (by kernel_rfl) (by simp) ?_; intro i' hi'; simp only [List.mem_cons, List.not_mem_nil, or_false] at hi'
          subst hi'
          refine ⟨_, _, _, rfl, by rfl, by rfl, .inr ⟨by decide, TK.ofOK (ok_app_keep (f2 := numsF Cn) tok rfl rfl rfl rfl rfl rfl (by decide) rfl rfl rfl (by decide) (fun j _ => (trivial : Pl (numsF Cn j))) (Nat.le_refl _) (by omega) (by omega) rfl rfl)⟩, ?_⟩
          refine WA.takesD T false tok [11, 12] (f' := 0) (by kernel_rfl) (by rfl) (by rfl) (by exact byObl) (by rfl) (by rfl) ?_
          refine WA.end rfl (by kernel_rfl) (noPan ?_)
          refine Ghost.trans (Ghost.fold 7 [0] 4 0 (by rfl) (by rfl) (by simp) (by exact (show (if 0 < 1 + (D.length - a) then some (Dat.sl 4 0 own.length 1) else none) = some (Dat.sl 4 0 own.length 1) from if_pos (by omega))) ⟨Nat.le_refl _, .inl ⟨rfl, rfl, fun _ _ => trivial⟩⟩ (by rfl)) ?_
          exact cut15 7 8 rfl rfl rfl rfl rfl rfl rfl hLn (fun j hj => cons_R2 own D (a) _ _ _ (fun i hi => by rw [Nat.zero_add]) hj) (fun j hj => cons_N 1 Cn (a) _ _ _ rfl (fun i hi => by rw [Nat.zero_add]) (by rw [hCl]; exact hj)) rfl rfl rfl rfl rfl rfl rfl rfl
      · refine ⟨_, _, _, rfl, by rfl, by rfl, .inl (MK.of tok (wm := false) (by rfl) (by exact byObl) (by rfl) (by exact byObl)), ?_⟩
        refine WA.allT [4] (by kernel_rfl) (by simp) ?_; intro i' hi'; simp only [List.mem_cons, List.not_mem_nil, or_false] at hi'
        subst hi'
        refine ⟨_, _, _, rfl, by rfl, by rfl, .inl (MK.q (sll_ok (l := a) tok rfl rfl rfl rfl rfl rfl rfl (by omega) (by omega))), ?_⟩
        refine WA.allT [5] (by kernel_rfl) (by simp) ?_; intro i' hi'; simp only [List.mem_cons, List.not_mem_nil, or_false] at hi'
        subst hi'
        refine ⟨_, _, _, rfl, by rfl, by rfl, .inr ⟨by decide, TK.ofOK (ok_app_keepN (f2 := rowsR D) tok rfl rfl rfl rfl rfl rfl (by decide) rfl rfl rfl (by decide) (fun j _ => noOwn_R _) (Nat.le_refl _) (by omega) (by omega) rfl rfl)⟩, ?_⟩
        refine WA.allT [10] (by kernel_rfl) (by simp) ?_; intro i' hi'; simp only [List.mem_cons, List.not_mem_nil, or_false] at hi'
        subst hi'
        refine ⟨_, _, _, rfl, by rfl, by rfl, .inr ⟨by decide, TK.ofOK (ok_app_keep (f2 := numsF Cn) tok rfl rfl rfl rfl rfl rfl (by decide) rfl rfl rfl (by decide) (fun j _ => (trivial : Pl (numsF Cn j))) (Nat.le_refl _) (by omega) (by omega) rfl rfl)⟩, ?_⟩
        refine WA.takesD T false tok [11, 12] (f' := 0) (by kernel_rfl) (by rfl) (by rfl) (by exact byObl) (by rfl) (by rfl) ?_
        refine WA.end rfl (by kernel_rfl) (noPan ?_)
        refine Ghost.trans (Ghost.fold 7 [0] 4 0 (by rfl) (by rfl) (by simp) (by exact (show (if 0 < 1 + (D.length - a) then some (Dat.sl 4 0 own.length 1) else none) = some (Dat.sl 4 0 own.length 1) from if_pos (by omega))) ⟨Nat.le_refl _, .inl ⟨rfl, rfl, fun _ _ => trivial⟩⟩ (by rfl)) ?_
        exact cut15 7 8 rfl rfl rfl rfl rfl rfl rfl hLn (fun j hj => cons_R2 own D (a) _ _ _ (fun i hi => by rw [Nat.zero_add]) hj) (fun j hj => cons_N 1 Cn (a) _ _ _ rfl (fun i hi => by rw [Nat.zero_add]) (by rw [hCl]; exact hj)) rfl rfl rfl rfl rfl rfl rfl rfl
    · refine ⟨_, _, _, rfl, by rfl, by rfl, .inl (MK.q (sll_ok (l := a) tok rfl rfl rfl rfl rfl rfl rfl (by omega) (by omega))), ?_⟩
      refine WA.allT [1, 6] (by kernel_rfl) (by simp) ?_; intro i' hi'; simp only [List.mem_cons, List.not_mem_nil, or_false] at hi'
      rcases hi' with rfl | rfl
      · refine ⟨_, _, _, rfl, by rfl, by rfl, .inl (MK.of tok (wm := false) (by rfl) (by exact byObl) (by rfl) (by exact byObl)), ?_⟩
        refine WA.allT [5, 6] (by kernel_rfl) (by simp) ?_; intro i' hi'; simp only [List.mem_cons, List.not_mem_nil, or_false] at hi'
        rcases hi' with rfl | rfl
        · refine ⟨_, _, _, rfl, by rfl, by rfl, .inr ⟨by decide, TK.ofOK (ok_app_keepN (f2 := rowsR D) tok rfl rfl rfl rfl rfl rfl (by decide) rfl rfl rfl (by decide) (fun j _ => noOwn_R _) (Nat.le_refl _) (by omega) (by omega) rfl rfl)⟩, ?_⟩
          refine WA.allT [6] (by kernel_rfl) (by simp) ?_; intro i' hi'; simp only [List.mem_cons, List.not_mem_nil, or_false] at hi'
          subst hi'
          refine ⟨_, _, _, rfl, by rfl, by rfl, .inl (MK.of tok (wm := false) (by rfl) (by exact byObl) (by rfl) (by exact byObl)), ?_⟩
          refine WA.allT [10] (by kernel_rfl) (by simp) ?_; intro i' hi'; simp only [List.mem_cons, List.not_mem_nil, or_false] at hi'
          subst hi'
          refine ⟨_, _, _, rfl, by rfl, by rfl, .inr ⟨by decide, TK.ofOK (ok_app_keep (f2 := numsF Cn) tok rfl rfl rfl rfl rfl rfl (by decide) rfl rfl rfl (by decide) (fun j _ => (trivial : Pl (numsF Cn j))) (Nat.le_refl _) (by omega) (by omega) rfl rfl)⟩, ?_⟩
          refine WA.takesD T false tok [11, 12] (f' := 0) (by kernel_rfl) (by rfl) (by rfl) (by exact byObl) (by rfl) (by rfl) ?_
          refine WA.end rfl (by kernel_rfl) (noPan ?_)
          refine Ghost.trans (Ghost.fold 6 [0] 4 0 (by rfl) (by rfl) (by simp) (by exact (show (if 0 < 1 + (D.length - a) then some (Dat.sl 4 0 own.length 1) else none) = some (Dat.sl 4 0 own.length 1) from if_pos (by omega))) ⟨Nat.le_refl _, .inl ⟨rfl, rfl, fun _ _ => trivial⟩⟩ (by rfl)) ?_
          exact cut15 6 8 rfl rfl rfl rfl rfl rfl rfl hLn (fun j hj => cons_R2 own D (a) _ _ _ (fun i hi => by rw [Nat.zero_add]) hj) (fun j hj => cons_N 1 Cn (a) _ _ _ rfl (fun i hi => by rw [Nat.zero_add]) (by rw [hCl]; exact hj)) rfl rfl rfl rfl rfl rfl rfl rfl
        · refine ⟨_, _, _, rfl, by rfl, by rfl, .inl (MK.of tok (wm := false) (by rfl) (by exact byObl) (by rfl) (by exact byObl)), ?_⟩
          refine WA.allT [5] (by kernel_rfl) (by simp) ?_; intro i' hi'; simp only [List.mem_cons, List.not_mem_nil, or_false] at hi'
          subst hi'
          refine ⟨_, _, _, rfl, by rfl, by rfl, .inr ⟨by decide, TK.ofOK (ok_app_keepN (f2 := rowsR D) tok rfl rfl rfl rfl rfl rfl (by decide) rfl rfl rfl (by decide) (fun j _ => noOwn_R _) (Nat.le_refl _) (by omega) (by omega) rfl rfl)⟩, ?_⟩
          refine WA.allT [10] (by kernel_rfl) (by simp) ?_; intro i' hi'; simp only [List.mem_cons, List.not_mem_nil, or_false] at hi'
          subst hi'
          refine ⟨_, _, _, rfl, by rfl, by rfl, .inr ⟨by decide, TK.ofOK (ok_app_keep (f2 := numsF Cn) tok rfl rfl rfl rfl rfl rfl (by decide) rfl rfl rfl (by decide) (fun j _ => (trivial : Pl (numsF Cn j))) (Nat.le_refl _) (by omega) (by omega) rfl rfl)⟩, ?_⟩
          refine WA.takesD T false tok [11, 12] (f' := 0) (by kernel_rfl) (by rfl) (by rfl) (by exact byObl) (by rfl) (by rfl) ?_
          refine WA.end rfl (by kernel_rfl) (noPan ?_)
          refine Ghost.trans (Ghost.fold 7 [0] 4 0 (by rfl) (by rfl) (by simp) (by exact (show (if 0 < 1 + (D.length - a) then some (Dat.sl 4 0 own.length 1) else none) = some (Dat.sl 4 0 own.length 1) from if_pos (by omega))) ⟨Nat.le_refl _, .inl ⟨rfl, rfl, fun _ _ => trivial⟩⟩ (by rfl)) ?_
          exact cut15 7 8 rfl rfl rfl rfl rfl rfl rfl hLn (fun j hj => cons_R2 own D (a) _ _ _ (fun i hi => by rw [Nat.zero_add]) hj) (fun j hj => cons_N 1 Cn (a) _ _ _ rfl (fun i hi => by rw [Nat.zero_add]) (by rw [hCl]; exact hj)) rfl rfl rfl rfl rfl rfl rfl rfl
      · refine ⟨_, _, _, rfl, by rfl, by rfl, .inl (MK.of tok (wm := false) (by rfl) (by exact byObl) (by rfl) (by exact byObl)), ?_⟩
        refine WA.allT [1] (by kernel_rfl) (by simp) ?_; intro i' hi'; simp only [List.mem_cons, List.not_mem_nil, or_false] at hi'
        subst hi'
        refine ⟨_, _, _, rfl, by rfl, by rfl, .inl (MK.of tok (wm := false) (by rfl) (by exact byObl) (by rfl) (by exact byObl)), ?_⟩
        refine WA.allT [5] (by kernel_rfl) (by simp) ?_; intro i' hi'; simp only [List.mem_cons, List.not_mem_nil, or_false] at hi'
        subst hi'
        refine ⟨_, _, _, rfl, by rfl, by rfl, .inr ⟨by decide, TK.ofOK (ok_app_keepN (f2 := rowsR D) tok rfl rfl rfl rfl rfl rfl (by decide) rfl rfl rfl (by decide) (fun j _ => noOwn_R _) (Nat.le_refl _) (by omega) (by omega) rfl rfl)⟩, ?_⟩
        refine WA.allT [10] (by kernel_rfl) (by simp) ?_; intro i' hi'; simp only [List.mem_cons, List.not_mem_nil, or_false] at hi'
        subst hi'
        refine ⟨_, _, _, rfl, by rfl, by rfl, .inr ⟨by decide, TK.ofOK (ok_app_keep (f2 := numsF Cn) tok rfl rfl rfl rfl rfl rfl (by decide) rfl rfl rfl (by decide) (fun j _ => (trivial : Pl (numsF Cn j))) (Nat.le_refl _) (by omega) (by omega) rfl rfl)⟩, ?_⟩
        refine WA.takesD T false tok [11, 12] (f' := 0) (by kernel_rfl) (by rfl) (by rfl) (by exact byObl) (by rfl) (by rfl) ?_
        refine WA.end rfl (by kernel_rfl) (noPan ?_)
        refine Ghost.trans (Ghost.fold 7 [0] 4 0 (by rfl) (by rfl) (by simp) (by exact (show (if 0 < 1 + (D.length - a) then some (Dat.sl 4 0 own.length 1) else none) = some (Dat.sl 4 0 own.length 1) from if_pos (by omega))) ⟨Nat.le_refl _, .inl ⟨rfl, rfl, fun _ _ => trivial⟩⟩ (by rfl)) ?_
        exact cut15 7 8 rfl rfl rfl rfl rfl rfl rfl hLn (fun j hj => cons_R2 own D (a) _ _ _ (fun i hi => by rw [Nat.zero_add]) hj) (fun j hj => cons_N 1 Cn (a) _ _ _ rfl (fun i hi => by rw [Nat.zero_add]) (by rw [hCl]; exact hj)) rfl rfl rfl rfl rfl rfl rfl rfl
    · refine ⟨_, _, _, rfl, by rfl, by rfl, .inl (MK.of tok (wm := false) (by rfl) (by exact byObl) (by rfl) (by exact byObl)), ?_⟩
      refine WA.allT [1, 4] (by kernel_rfl) (by simp) ?_; intro i' hi'; simp only [List.mem_cons, List.not_mem_nil, or_false] at hi'
      rcases hi' with rfl | rfl
      · refine ⟨_, _, _, rfl, by rfl, by rfl, .inl (MK.of tok (wm := false) (by rfl) (by exact byObl) (by rfl) (by exact byObl)), ?_⟩
        refine WA.allT [4] (by kernel_rfl) (by simp) ?_; intro i' hi'; simp only [List.mem_cons, List.not_mem_nil, or_false] at hi'
        subst hi'
        refine ⟨_, _, _, rfl, by rfl, by rfl, .inl (MK.q (sll_ok (l := a) tok rfl rfl rfl rfl rfl rfl rfl (by omega) (by omega))), ?_⟩
        refine WA.allT [5] (by kernel_rfl) (by simp) ?_; intro i' hi'; simp only [List.mem_cons, List.not_mem_nil, or_false] at hi'
        subst hi'
        refine ⟨_, _, _, rfl, by rfl, by rfl, .inr ⟨by decide, TK.ofOK (ok_app_keepN (f2 := rowsR D) tok rfl rfl rfl rfl rfl rfl (by decide) rfl rfl rfl (by decide) (fun j _ => noOwn_R _) (Nat.le_refl _) (by omega) (by omega) rfl rfl)⟩, ?_⟩
        refine WA.allT [10] (by kernel_rfl) (by simp) ?_; intro i' hi'; simp only [List.mem_cons, List.not_mem_nil, or_false] at hi'
        subst hi'
        refine ⟨_, _, _, rfl, by rfl, by rfl, .inr ⟨by decide, TK.ofOK (ok_app_keep (f2 := numsF Cn) tok rfl rfl rfl rfl rfl rfl (by decide) rfl rfl rfl (by decide) (fun j _ => (trivial : Pl (numsF Cn j))) (Nat.le_refl _) (by omega) (by omega) rfl rfl)⟩, ?_⟩
        refine WA.takesD T false tok [11, 12] (f' := 0) (by kernel_rfl) (by rfl) (by rfl) (by exact byObl) (by rfl) (by rfl) ?_
        refine WA.end rfl (by kernel_rfl) (noPan ?_)
        refine Ghost.trans (Ghost.fold 7 [0] 4 0 (by rfl) (by rfl) (by simp) (by exact (show (if 0 < 1 + (D.length - a) then some (Dat.sl 4 0 own.length 1) else none) = some (Dat.sl 4 0 own.length 1) from if_pos (by omega))) ⟨Nat.le_refl _, .inl ⟨rfl, rfl, fun _ _ => trivial⟩⟩ (by rfl)) ?_
        exact cut15 7 8 rfl rfl rfl rfl rfl rfl rfl hLn (fun j hj => cons_R2 own D (a) _ _ _ (fun i hi => by rw [Nat.zero_add]) hj) (fun j hj => cons_N 1 Cn (a) _ _ _ rfl (fun i hi => by rw [Nat.zero_add]) (by rw [hCl]; exact hj)) rfl rfl rfl rfl rfl rfl rfl rfl
      · refine ⟨_, _, _, rfl, by rfl, by rfl, .inl (MK.q (sll_ok (l := a) tok rfl rfl rfl rfl rfl rfl rfl (by omega) (by omega))), ?_⟩
        refine WA.allT [1] (by kernel_rfl) (by simp) ?_; intro i' hi'; simp only [List.mem_cons, List.not_mem_nil, or_false] at hi'
        subst hi'
        refine ⟨_, _, _, rfl, by rfl, by rfl, .inl (MK.of tok (wm := false) (by rfl) (by exact byObl) (by rfl) (by exact byObl)), ?_⟩
        refine WA.allT [5] (by kernel_rfl) (by simp) ?_; intro i' hi'; simp only [List.mem_cons, List.not_mem_nil, or_false] at hi'
        subst hi'
        refine ⟨_, _, _, rfl, by rfl, by rfl, .inr ⟨by decide, TK.ofOK (ok_app_keepN (f2 := rowsR D) tok rfl rfl rfl rfl rfl rfl (by decide) rfl rfl rfl (by decide) (fun j _ => noOwn_R _) (Nat.le_refl _) (by omega) (by omega) rfl rfl)⟩, ?_⟩
        refine WA.allT [10] (by kernel_rfl) (by simp) ?_; intro i' hi'; simp only [List.mem_cons, List.not_mem_nil, or_false] at hi'
        subst hi'
        refine ⟨_, _, _, rfl, by rfl, by rfl, .inr ⟨by decide, TK.ofOK (ok_app_keep (f2 := numsF Cn) tok rfl rfl rfl rfl rfl rfl (by decide) rfl rfl rfl (by decide) (fun j _ => (trivial : Pl (numsF Cn j))) (Nat.le_refl _) (by omega) (by omega) rfl rfl)⟩, ?_⟩
        refine WA.takesD T false tok [11, 12] (f' := 0) (by kernel_rfl) (by rfl) (by rfl) (by exact byObl) (by rfl) (by rfl) ?_
        refine WA.end rfl (by kernel_rfl) (noPan ?_)
        refine Ghost.trans (Ghost.fold 7 [0] 4 0 (by rfl) (by rfl) (by simp) (by exact (show (if 0 < 1 + (D.length - a) then some (Dat.sl 4 0 own.length 1) else none) = some (Dat.sl 4 0 own.length 1) from if_pos (by omega))) ⟨Nat.le_refl _, .inl ⟨rfl, rfl, fun _ _ => trivial⟩⟩ (by rfl)) ?_
        exact cut15 7 8 rfl rfl rfl rfl rfl rfl rfl hLn (fun j hj => cons_R2 own D (a) _ _ _ (fun i hi => by rw [Nat.zero_add]) hj) (fun j hj => cons_N 1 Cn (a) _ _ _ rfl (fun i hi => by rw [Nat.zero_add]) (by rw [hCl]; exact hj)) rfl rfl rfl rfl rfl rfl rfl rfl

end Go.Proofs.Ytaafldclbdlgfaa
