import Derived.Test.YtaafldclbdlgfaaX29
/- Blocks: the program's side. -/
namespace Go.Proofs.Ytaafldclbdlgfaa
open Go.RowKit DM
set_option linter.unusedSimpArgs false
set_option linter.unusedVariables false
set_option maxRecDepth 100000
set_option maxHeartbeats 1000000

def bwF (b w : Nat → Nat) (j : Nat) : Nat → Nat := if j = 0 then b else w
def bwP (b w : Nat → Nat) (i0 j0 k : Nat) : List (Nat × Nat) := ((List.range k).map fun j => (bwF b w j i0, bwF b w j j0))
theorem bwP_step (b w : Nat → Nat) (i0 j0 k : Nat) : bwP b w i0 j0 (k + 1) = bwP b w i0 j0 k ++ [(bwF b w k i0, bwF b w k j0)] := by
  unfold bwP; rw [List.range_succ, List.map_append]; rfl
theorem bwP_len (b w : Nat → Nat) (i0 j0 k : Nat) : (bwP b w i0 j0 k).length = k := by simp [bwP]
theorem bwP_two (b w : Nat → Nat) (i0 j0 : Nat) : bwP b w i0 j0 2 = [(b i0, b j0), (w i0, w j0)] := rfl

theorem min_max {f : Nat → Nat} {i j : Nat} : (max (f i) (f j) = f i ∧ min (f i) (f j) = f j) ∨ (max (f i) (f j) = f j ∧ min (f i) (f j) = f i) := by omega

theorem block_fn (N : Nat) (b w : Nat → Nat) (x y : Nat) (hx : x < N) (hy : y < N) (hN : N ≤ 16) (hb : ∀ i, i < N → b i < N) (hw : ∀ i, i < N → w i < N) : FnS Try.prog 51 [ds_ N b w, .i .i64 (x : Int), .i .i64 (y : Int)] []
    (fun r m' => r = .sl 0 0 (blkL N b w x y).length 1 ∧ m' = [.row 2 (blkL N b w x y).length 1 (numsF (blkL N b w x y))]) := by
  refine FnS.intoN T tok Try.func51 (by rfl) rfl rfl rfl (by simp) ?_
  refine WP.rs T false tok (by rfl) (by exact byObl) ?_
  refine WP.rw ?_
  refine WPL.run T false 2 tok (by rfl) (by exact byObl) ?_
  refine WPL.callN [] (.sl 1 0 N 1) (newClasses_fn N hN) (trivial) (by rfl) (by rfl) (by exact byArgs) (by rfl) (by rfl) (by simp [Sc, sc_pl, sc_ds]) (by exact byAllc) (rfl) (by exact bySc) rfl ?_
  refine WPL.fin T false tok (by rfl) (by exact byObl) ?_
  refine WP.rs T false tok (by rfl) (by exact byObl) ?_
  refine WP.seq (WP.block ?_)
  refine WP.loopH (⟨fun s : List (Nat × Nat) × (Nat → Nat) => BlkInv N b w x y s.2 s.1 ∧ 3 * reps N s.2 + s.1.length ≤ 49, fun s => [(1, .i .i64 (x : Int)), (3, .p 0 [] 0), (7, .sl 1 0 N 1), (8, .sl 2 0 s.1.length 2)], fun s => [.var (ds_ N b w), .row 2 N 1 (nmF s.2), .row 110 s.1.length 2 (prF s.1)], fun s => 3 * reps N s.2 + s.1.length⟩) (([(x, y)], fun i => i)) (⟨BlkInv.start hx hy, by have := reps_le N fun i => i; simp only [List.length_singleton]; omega⟩) (Ghost.cut (Nat.le_refl _) (tauOf [0, 1, 2]) _ _ (Taken.of [0, 1, 2] (LeAll.cons (by rfl) (by first | with_reducible exact Root.Le.refl _ | with_reducible exact le_dead | (exact le_row (Nat.le_refl _) (fun j hj => by obtain rfl : j = 0 := (by have : j < 1 := hj; omega); rfl)) | exact byLeq) (by exact byCon) (LeAll.cons (by rfl) (by first | with_reducible exact Root.Le.refl _ | with_reducible exact le_dead | (exact le_row (Nat.le_refl _) (fun j hj => by obtain rfl : j = 0 := (by have : j < 1 := hj; omega); rfl)) | exact byLeq) (by exact byCon) (LeAll.cons (by rfl) (by first | with_reducible exact Root.Le.refl _ | with_reducible exact le_dead | (exact le_row (Nat.le_refl _) (fun j hj => by obtain rfl : j = 0 := (by have : j < 1 := hj; omega); rfl)) | exact byLeq) (by exact byCon) (trivial)))) rfl rfl) (by exact bySlots)) ?_
  rintro ⟨P, f⟩ ⟨hI, hM⟩
  simp only at hI hM
  dsimp only [Hd.at]
  have hPl : P.length ≤ 49 := by omega
  refine WP.seq ?_
  refine WP.rs T false tok (by rfl) (by exact byObl) ?_
  refine WP.cond (by rfl) (fun hc => WP.skip ?_) (fun hc => WP.exit ?_)
  · rcases List.eq_nil_or_concat P with rfl | ⟨P', p, rfl⟩
    · simp at hc
    clear hc
    obtain ⟨i0, j0⟩ := p
    rw [List.concat_eq_append] at *
    have hI1 := hI.last
    obtain ⟨hi0, hj0⟩ := hI1.lt i0 j0 (List.mem_cons_self ..)
    have hlen : (P' ++ [(i0, j0)]).length = P'.length + 1 := by simp
    have hM : 3 * reps N f + P'.length + 1 ≤ 49 := by simp only [hlen] at hM; omega
    have hmu : ∀ q : Nat, q < 3 * reps N f + P'.length + 1 → q < 3 * reps N f + (P' ++ [(i0, j0)]).length := fun q h => by rw [hlen]; omega
    have hget : prF (P' ++ [(i0, j0)]) P'.length = .ar 2 1 (prI (i0, j0)) := by unfold prF; rw [getD_snoc]
    have hpre : ∀ j, j < P'.length → prF P' j = prF (P' ++ [(i0, j0)]) j := fun j hj => by unfold prF; rw [getD_snoc_lt _ _ _ hj]
    rw [hlen]
    have hP' : (((P'.length + 1 : Nat) : Int) - 1).toNat = P'.length := by omega
    refine WP.block ?_
    refine WP.rs T false tok (by rfl) (by exact byObl) ?_
    refine WP.ghost (Ghost.cut (Nat.le_refl _) (tauOf [0, 1, 2, 3]) [(1, .i .i64 (x : Int)), (3, .p 0 [] 0), (7, .sl 1 0 N 1), (8, .sl 2 0 (P'.length + 1) 2), (9, .p 3 [] 0)] [.var (ds_ N b w), .row 2 N 1 (nmF f), .row 110 (P'.length + 1) 2 (prF (P' ++ [(i0, j0)])), .var (.ar 2 1 (prI (i0, j0)))] (Taken.of [0, 1, 2, 3] (LeAll.cons (by rfl) (by first | with_reducible exact Root.Le.refl _ | with_reducible exact le_dead | (exact le_var (by rw [addrAt0, hP', getD_snoc])) | exact byLeq) (by exact byCon) (LeAll.cons (by rfl) (by first | with_reducible exact Root.Le.refl _ | with_reducible exact le_dead | (exact le_var (by rw [addrAt0, hP', getD_snoc])) | exact byLeq) (by exact byCon) (LeAll.cons (by rfl) (by first | with_reducible exact Root.Le.refl _ | with_reducible exact le_dead | (exact le_var (by rw [addrAt0, hP', getD_snoc])) | exact byLeq) (by exact byCon) (LeAll.cons (by rfl) (by first | with_reducible exact Root.Le.refl _ | with_reducible exact le_dead | (exact le_var (by rw [addrAt0, hP', getD_snoc])) | exact byLeq) (by exact byCon) (trivial))))) rfl rfl) (by exact bySlots)) ?_
    refine WP.rw ?_
    refine WPL.run T false 4 tok (by rfl) (by exact byObl) ?_
    refine WPL.op (by rfl) (by rfl) (QOK.op (slh_ok (h := P'.length) tok rfl rfl rfl (congrArg (Dat.i .i64) (show (((P'.length + 1 : Nat) : Int) - 1) = _ by omega)) rfl rfl rfl (by omega))) ?_
    refine WPL.fin T false tok (by rfl) (by exact byObl) ?_
    refine WP.rw ?_
    refine WPL.run T false 5 tok (by rfl) (by exact byObl) ?_
    refine WPL.callN [1] (.b (!decide (((min (f i0) (f j0) : Nat) : Int) = ((max (f i0) (f j0) : Nat) : Int)))) (join_fn N f i0 j0 hN hi0 hj0) (LeAll.cons (by rfl) (by first | with_reducible exact Root.Le.refl _ | with_reducible exact le_dead | (skip; done) | exact byLeq) (by exact byCon) (trivial)) (by rfl) (by rfl) (by exact byArgs) (by rfl) (by rfl) (by simp [Sc, sc_pl, sc_ds]) (by exact byAllc) (⟨rfl, trivial⟩) (by exact bySc) rfl ?_
    refine WPL.fin T false tok (by rfl) (by exact byObl) ?_
    by_cases he : f i0 = f j0
    · refine WP.cond (by rfl) (fun h => ?_) (fun h => WP.skip ?_)
      · simp [he] at h
      · refine Again.next ((P', f)) (Ghost.cut (Nat.le_refl _) (tauOf [0, 1, 2]) _ _ (Taken.of [0, 1, 2] (LeAll.cons (by rfl) (by first | with_reducible exact Root.Le.refl _ | with_reducible exact le_dead | (first | exact le_row (Nat.le_succ _) (fun j hj => hpre j hj) | (rw [he, joinF_same (by simp)]; exact Root.Le.refl _)) | exact byLeq) (by exact byCon) (LeAll.cons (by rfl) (by first | with_reducible exact Root.Le.refl _ | with_reducible exact le_dead | (first | exact le_row (Nat.le_succ _) (fun j hj => hpre j hj) | (rw [he, joinF_same (by simp)]; exact Root.Le.refl _)) | exact byLeq) (by exact byCon) (LeAll.cons (by rfl) (by first | with_reducible exact Root.Le.refl _ | with_reducible exact le_dead | (first | exact le_row (Nat.le_succ _) (fun j hj => hpre j hj) | (rw [he, joinF_same (by simp)]; exact Root.Le.refl _)) | exact byLeq) (by exact byCon) (trivial)))) rfl rfl) (by exact bySlots)) (⟨hI1.skip he, by simp only; omega⟩) (by exact hmu _ (by simp only; omega))
    · have hst := min_max (f := f) (i := i0) (j := j0)
      have hne : max (f i0) (f j0) ≠ min (f i0) (f j0) := by omega
      have hrep := hI1.reps hst hne
      have hI2 := hI1.join hb hw hst
      generalize joinF f (max (f i0) (f j0)) (min (f i0) (f j0)) = g at *
      refine WP.cond (by rfl) (fun h => ?_) (fun h => WP.skip ?_)
      · refine WP.rs T false tok (by rfl) (by exact byObl) ?_
        refine WP.block ?_
        refine WP.loopH (⟨fun k : Nat => k ≤ 2, fun k => [(1, .i .i64 (x : Int)), (3, .p 0 [] 0), (7, .sl 1 0 N 1), (8, .sl 2 0 (P'.length + k) 2), (9, .p 3 [] 0), (46, .sl 4 0 2 16), (47, .i .i64 2), (48, .i .i64 (k : Int))], fun k => [.var (ds_ N b w), .row 2 N 1 (nmF g), .row 110 (P'.length + k) 2 (prF (P' ++ bwP b w i0 j0 k)), .var (.ar 2 1 (prI (i0, j0))), .row 25 2 16 (fun j => pl (bwF b w j))], fun k => 2 - k⟩) (0) (Nat.zero_le _) (Ghost.cut (Nat.le_refl _) (tauOf [0, 1, 2, 3, 4]) _ _ (Taken.of [0, 1, 2, 3, 4] (LeAll.cons (by rfl) (by first | with_reducible exact Root.Le.refl _ | with_reducible exact le_dead | (first | exact le_row (by omega) (fun j hj => by rw [← hpre j (by omega)]; simp [bwP]) | exact le_row (Nat.le_refl _) (fun j hj => by rcases j with _ | _ | j <;> first | rfl | omega)) | exact byLeq) (by exact byCon) (LeAll.cons (by rfl) (by first | with_reducible exact Root.Le.refl _ | with_reducible exact le_dead | (first | exact le_row (by omega) (fun j hj => by rw [← hpre j (by omega)]; simp [bwP]) | exact le_row (Nat.le_refl _) (fun j hj => by rcases j with _ | _ | j <;> first | rfl | omega)) | exact byLeq) (by exact byCon) (LeAll.cons (by rfl) (by first | with_reducible exact Root.Le.refl _ | with_reducible exact le_dead | (first | exact le_row (by omega) (fun j hj => by rw [← hpre j (by omega)]; simp [bwP]) | exact le_row (Nat.le_refl _) (fun j hj => by rcases j with _ | _ | j <;> first | rfl | omega)) | exact byLeq) (by exact byCon) (LeAll.cons (by rfl) (by first | with_reducible exact Root.Le.refl _ | with_reducible exact le_dead | (first | exact le_row (by omega) (fun j hj => by rw [← hpre j (by omega)]; simp [bwP]) | exact le_row (Nat.le_refl _) (fun j hj => by rcases j with _ | _ | j <;> first | rfl | omega)) | exact byLeq) (by exact byCon) (LeAll.cons (by rfl) (by first | with_reducible exact Root.Le.refl _ | with_reducible exact le_dead | (first | exact le_row (by omega) (fun j hj => by rw [← hpre j (by omega)]; simp [bwP]) | exact le_row (Nat.le_refl _) (fun j hj => by rcases j with _ | _ | j <;> first | rfl | omega)) | exact byLeq) (by exact byCon) (trivial)))))) rfl rfl) (by exact bySlots)) ?_
        intro k hk
        dsimp only at hk
        dsimp only [Hd.at]
        refine WP.rs T false tok (by rfl) (by exact byObl) ?_
        refine WP.seq ?_
        refine WP.cond (by rfl) (fun hc => WP.skip ?_) (fun hc => WP.exit ?_)
        · have hk : k < 2 := by have := of_decide_eq_true hc; omega
          clear hc
          have hbw : ∀ i, i < N → bwF b w k i < N := fun i hi => by unfold bwF; split; exact hb i hi; exact hw i hi
          have h1 := hbw i0 hi0
          have h2 := hbw j0 hj0
          refine WP.seq (WP.block ?_)
          refine WP.rs T false tok (by rfl) (by exact byObl) ?_
          refine WP.da (by kernel_rfl) 13 (by kernel_rfl) ?_
          refine WA.takes T false tok [0, 1, 2, 3, 4, 5, 6, 7, 8, 9, 10, 11] (f' := 3) (by kernel_rfl) (by rfl) (by rfl) (by rfl) (by exact byObl) (by rfl) (by rfl) ?_
          refine WA.all [12] (by kernel_rfl) (by simp) ?_
          intro i hi
          obtain rfl : i = 12 := by simpa using hi
          refine ⟨_, _, _, rfl, by rfl, by rfl, MK.of tok (wm := false) (by rfl) (by exact byObl) (by rfl) (by exact byObl), ?_⟩
          refine WA.tail (by rfl) (by rfl) (by kernel_rfl) ?_
          refine WPL.fin T false tok (by rfl) (by exact byObl) ?_
          refine noPan ?_
          refine WP.run T false tok (by rfl) (by exact byObl) ?_
          refine Again.next (k + 1) (Ghost.cut (Nat.le_refl _) (tauOf [0, 1, 7, 3, 4]) _ _ (Taken.of [0, 1, 7, 3, 4] (LeAll.cons (by rfl) (by first | with_reducible exact Root.Le.refl _ | with_reducible exact le_dead | (exact le_row (by omega) (fun j hj => by rw [bwP_step, ← List.append_assoc]; exact ap_prs' (by simp [bwP_len]) _ _ j hj)) | exact byLeq) (by exact byCon) (LeAll.cons (by rfl) (by first | with_reducible exact Root.Le.refl _ | with_reducible exact le_dead | (exact le_row (by omega) (fun j hj => by rw [bwP_step, ← List.append_assoc]; exact ap_prs' (by simp [bwP_len]) _ _ j hj)) | exact byLeq) (by exact byCon) (LeAll.cons (by rfl) (by first | with_reducible exact Root.Le.refl _ | with_reducible exact le_dead | (exact le_row (by omega) (fun j hj => by rw [bwP_step, ← List.append_assoc]; exact ap_prs' (by simp [bwP_len]) _ _ j hj)) | exact byLeq) (by exact byCon) (LeAll.cons (by rfl) (by first | with_reducible exact Root.Le.refl _ | with_reducible exact le_dead | (exact le_row (by omega) (fun j hj => by rw [bwP_step, ← List.append_assoc]; exact ap_prs' (by simp [bwP_len]) _ _ j hj)) | exact byLeq) (by exact byCon) (LeAll.cons (by rfl) (by first | with_reducible exact Root.Le.refl _ | with_reducible exact le_dead | (exact le_row (by omega) (fun j hj => by rw [bwP_step, ← List.append_assoc]; exact ap_prs' (by simp [bwP_len]) _ _ j hj)) | exact byLeq) (by exact byCon) (trivial)))))) rfl rfl) (by exact bySlots)) (hk) (by dsimp only; omega)
        · have hk : k = 2 := by have := of_decide_eq_false hc; omega
          subst hk
          have hLen : (P' ++ bwP b w i0 j0 2).length = P'.length + 2 := by simp [bwP_len]
          refine Again.next ((P' ++ bwP b w i0 j0 2, g)) (Ghost.cut (Nat.le_refl _) (tauOf [0, 1, 2]) _ _ (Taken.of [0, 1, 2] (LeAll.cons (by rfl) (by first | with_reducible exact Root.Le.refl _ | with_reducible exact le_dead | (exact le_row (Nat.le_of_eq hLen) (fun _ _ => rfl)) | exact byLeq) (by exact byCon) (LeAll.cons (by rfl) (by first | with_reducible exact Root.Le.refl _ | with_reducible exact le_dead | (exact le_row (Nat.le_of_eq hLen) (fun _ _ => rfl)) | exact byLeq) (by exact byCon) (LeAll.cons (by rfl) (by first | with_reducible exact Root.Le.refl _ | with_reducible exact le_dead | (exact le_row (Nat.le_of_eq hLen) (fun _ _ => rfl)) | exact byLeq) (by exact byCon) (trivial)))) rfl rfl) (by exact bySlots)) (⟨hI2.perm fun q => by (rw [bwP_two]; simp only [List.mem_append, List.mem_cons, List.not_mem_nil, or_false]; constructor <;> rintro (h | h | h) <;> simp [h]), by simp only [hLen]; omega⟩) (by exact hmu _ (by simp only [hLen]; omega))
      · have := of_decide_eq_true (show decide (_ = _) = true by simpa using h)
        exact absurd this (by omega)
  · have hP : P = [] := by
      have := of_decide_eq_false hc
      cases P with
      | nil => rfl
      | cons a l => simp at this
    subst hP
    have hL := hI.list
    refine WP.rs T false tok (by rfl) (by exact byObl) ?_
    refine WP.seq ?_
    refine WP.rs T false tok (by rfl) (by exact byObl) ?_
    refine WP.block ?_
    refine WP.loopH (⟨fun i : Nat => i ≤ N, fun i => [(1, .i .i64 (x : Int)), (7, .sl 1 0 N 1), (12, .sl 2 0 (fltL f (f x) i).length 1), (68, .sl 1 0 N 1), (69, .i .i64 (N : Int)), (70, .i .i64 (i : Int))], fun i => [.var (ds_ N b w), .row 2 N 1 (nmF f), .row 2 (fltL f (f x) i).length 1 (numsF (fltL f (f x) i))], fun i => N - i⟩) (0) (Nat.zero_le _) (Ghost.cut (Nat.le_refl _) (tauOf [0, 1, 3]) _ _ (Taken.of [0, 1, 3] (LeAll.cons (by rfl) (by first | with_reducible exact Root.Le.refl _ | with_reducible exact le_dead | (exact le_row (Nat.le_refl _) (fun j hj => absurd hj (Nat.not_lt_zero _))) | exact byLeq) (by exact byCon) (LeAll.cons (by rfl) (by first | with_reducible exact Root.Le.refl _ | with_reducible exact le_dead | (exact le_row (Nat.le_refl _) (fun j hj => absurd hj (Nat.not_lt_zero _))) | exact byLeq) (by exact byCon) (LeAll.cons (by rfl) (by first | with_reducible exact Root.Le.refl _ | with_reducible exact le_dead | (exact le_row (Nat.le_refl _) (fun j hj => absurd hj (Nat.not_lt_zero _))) | exact byLeq) (by exact byCon) (trivial)))) rfl rfl) (by exact bySlots)) ?_
    intro i hi
    dsimp only at hi
    dsimp only [Hd.at]
    have hl := flt_len f (f x) i
    refine WP.rs T false tok (by rfl) (by exact byObl) ?_
    refine WP.seq ?_
    refine WP.cond (by rfl) (fun hc => WP.skip ?_) (fun hc => WP.exit ?_)
    · have hi : i < N := by have := of_decide_eq_true hc; omega
      clear hc
      refine WP.seq (WP.block ?_)
      refine WP.rs T false tok (by rfl) (by exact byObl) ?_
      refine WP.rs T false tok (by rfl) (by exact byObl) ?_
      by_cases he : f i = f x
      · refine WP.cond (by rfl) (fun h => ?_) (fun h => WP.skip ?_)
        · refine WP.run T false tok (by rfl) (by exact byObl) ?_
          refine WP.run T false tok (by rfl) (by exact byObl) ?_
          have hLen : (fltL f (f x) (i + 1)).length = (fltL f (f x) i).length + 1 := by rw [flt_hit he]; simp
          refine Again.next (i + 1) (Ghost.cut (Nat.le_refl _) (tauOf [0, 1, 4]) _ _ (Taken.of [0, 1, 4] (LeAll.cons (by rfl) (by first | with_reducible exact Root.Le.refl _ | with_reducible exact le_dead | (exact le_row (Nat.le_of_eq hLen) (fun j hj => by rw [flt_hit he]; exact ap_nums _ _ _ j (by rw [hLen] at hj; exact hj))) | exact byLeq) (by exact byCon) (LeAll.cons (by rfl) (by first | with_reducible exact Root.Le.refl _ | with_reducible exact le_dead | (exact le_row (Nat.le_of_eq hLen) (fun j hj => by rw [flt_hit he]; exact ap_nums _ _ _ j (by rw [hLen] at hj; exact hj))) | exact byLeq) (by exact byCon) (LeAll.cons (by rfl) (by first | with_reducible exact Root.Le.refl _ | with_reducible exact le_dead | (exact le_row (Nat.le_of_eq hLen) (fun j hj => by rw [flt_hit he]; exact ap_nums _ _ _ j (by rw [hLen] at hj; exact hj))) | exact byLeq) (by exact byCon) (trivial)))) rfl rfl) (by exact bySlots)) (hi) (by dsimp only; omega)
        · have h := of_decide_eq_false h
          simp only [addrAt0, Int.toNat_natCast] at h
          exact absurd (by exact_mod_cast he) h
      · refine WP.cond (by rfl) (fun h => ?_) (fun h => WP.skip ?_)
        · have h := of_decide_eq_true h
          simp only [addrAt0, Int.toNat_natCast] at h
          exact absurd (by exact_mod_cast h) he
        · refine WP.run T false tok (by rfl) (by exact byObl) ?_
          have hLen : (fltL f (f x) (i + 1)).length = (fltL f (f x) i).length := by rw [flt_miss he]
          refine Again.next (i + 1) (Ghost.cut (Nat.le_refl _) (tauOf [0, 1, 2]) _ _ (Taken.of [0, 1, 2] (LeAll.cons (by rfl) (by first | with_reducible exact Root.Le.refl _ | with_reducible exact le_dead | ((rw [flt_miss he]; exact Root.Le.refl _)) | exact byLeq) (by exact byCon) (LeAll.cons (by rfl) (by first | with_reducible exact Root.Le.refl _ | with_reducible exact le_dead | ((rw [flt_miss he]; exact Root.Le.refl _)) | exact byLeq) (by exact byCon) (LeAll.cons (by rfl) (by first | with_reducible exact Root.Le.refl _ | with_reducible exact le_dead | ((rw [flt_miss he]; exact Root.Le.refl _)) | exact byLeq) (by exact byCon) (trivial)))) rfl rfl) (by exact bySlots)) (hi) (by dsimp only; omega)
    · have hi : i = N := by have := of_decide_eq_false hc; omega
      subst hi
      rw [← hL]
      refine WP.rs T false tok (by rfl) (by exact byObl) ?_
      exact WP.ret (Ends.new [2] (by rfl) (by exact byObl) (LeAll.cons (by rfl) (by first | with_reducible exact Root.Le.refl _ | with_reducible exact le_dead | (skip; done) | exact byLeq) (by exact byCon) (trivial)) rfl rfl (rfl) (sc_sl rfl))

end Go.Proofs.Ytaafldclbdlgfaa
