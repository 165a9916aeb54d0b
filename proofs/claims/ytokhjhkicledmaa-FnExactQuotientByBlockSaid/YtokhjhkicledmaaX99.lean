import Derived.Test.YtokhjhkicledmaaD30
import Derived.Test.YtokhjhkicledmaaX3
import Derived.Test.YtokhjhkicledmaaX16
import Derived.Test.YtokhjhkicledmaaX83
import Derived.Test.YtokhjhkicledmaaX98
/- Quotients by blocks: the law. -/
namespace Go.Proofs.Ytokhjhkicledmaa
open Go.RowKit DM
set_option linter.unusedSimpArgs false
set_option linter.unusedVariables false
set_option maxRecDepth 100000
set_option maxHeartbeats 1000000

theorem specQbNo_fn (n : Int) (b w : Nat → Nat) (hb : ∀ i, b i < 256) (hw : ∀ i, w i < 256) (hds : desB n b w = false) (m : Nat) (g : Nat → Int) : FnR Try.prog 21 [ds_ n b w, .sl 0 0 m 1] [.ro m 1 (fun t => .i .i64 (g t))] (t2 ds0 (.i .i64 1)) := by
  have h1 := l01Is_fn n b w hb hw
  rw [hds] at h1
  refine FnS.into T tok Try.func21 (by rfl) rfl rfl rfl (by simp) ?_
  refine WP.rs T false tok (by rfl) (by exact byObl) ?_
  refine WP.seq ?_
  refine WP.rw ?_
  refine WPL.run T false 1 tok (by rfl) (by exact byObl) ?_
  refine WPL.call (h1) (by rfl) (by rfl) (by rfl) (by simp [Sc, sc_pl, sc_ds, pl_ne, ds_ne]) ?_
  refine WPL.fin T false tok (by rfl) (by exact byObl) ?_
  refine WP.cond (by rfl) (fun h => ?_) (fun h => WP.skip ?_)
  · refine WP.rs T false tok (by rfl) (by exact byObl) ?_
    exact WP.ret (Ends.val (by rfl) (by exact byObl) (by rfl) (by exact sc_t2 (sc_ds _ _ _ _) trivial))
  · cases h
theorem implQbNo_fn (n : Int) (b w : Nat → Nat) (hb : ∀ i, b i < 256) (hw : ∀ i, w i < 256) (hds : desB n b w = false) (m : Nat) (g : Nat → Int) : FnR Try.prog 23 [ds_ n b w, .sl 0 0 m 1] [.ro m 1 (fun t => .i .i64 (g t))] (t2 ds0 (.i .i64 1)) := by
  have h1 := implIsDessin_fn n b w hb hw
  rw [hds] at h1
  refine FnS.into T tok Try.func23 (by rfl) rfl rfl rfl (by simp) ?_
  refine WP.rs T false tok (by rfl) (by exact byObl) ?_
  refine WP.seq ?_
  refine WP.rw ?_
  refine WPL.run T false 1 tok (by rfl) (by exact byObl) ?_
  refine WPL.call (h1) (by rfl) (by rfl) (by rfl) (by simp [Sc, sc_pl, sc_ds, pl_ne, ds_ne]) ?_
  refine WPL.fin T false tok (by rfl) (by exact byObl) ?_
  refine WP.cond (by rfl) (fun h => ?_) (fun h => WP.skip ?_)
  · refine WP.rs T false tok (by rfl) (by exact byObl) ?_
    exact WP.ret (Ends.val (by rfl) (by exact byObl) (by rfl) (by exact sc_t2 (sc_ds _ _ _ _) trivial))
  · cases h

theorem specQb_fn (N : Nat) (b w : Nat → Nat) (hD : Des N b w) (hds : desB N b w = true) (hNp : ∀ p ∈ [b, w], Np N p) (hb : ∀ i, b i < 256) (hw : ∀ i, w i < 256) (m : Nat) (g : Nat → Int) (hm : m ≤ 1048576) : FnR Try.prog 21 [ds_ N b w, .sl 0 0 m 1] [.ro m 1 (fun t => .i .i64 (g t))] (qbR N b w m g) := by
  have h1 := l01Is_fn N b w hb hw
  rw [hds] at h1
  have hN := hD.le
  have hN1 := hD.pos
  generalize hR : qbR N b w m g = R
  refine FnS.into T tok Try.func21 (by rfl) rfl rfl rfl (by simp) ?_
  refine WP.rs T false tok (by rfl) (by exact byObl) ?_
  refine WP.seq ?_
  refine WP.rw ?_
  refine WPL.run T false 1 tok (by rfl) (by exact byObl) ?_
  refine WPL.call (h1) (by rfl) (by rfl) (by rfl) (by simp [Sc, sc_pl, sc_ds, pl_ne, ds_ne]) ?_
  refine WPL.fin T false tok (by rfl) (by exact byObl) ?_
  refine WP.cond (by rfl) (fun h => ?_) (fun h => WP.skip ?_)
  · cases h
  clear h h1
  refine WP.seq ?_
  refine WP.rs T false tok (by rfl) (by exact byObl) ?_
  refine WP.cond (by rfl) (fun h => ?_) (fun h => WP.skip ?_)
  · have h := of_decide_eq_true h
    have eR : t2 ds0 (.i .i64 2) = R := by rw [← hR]; unfold qbR; rw [if_pos (.inl (by omega))]
    refine WP.rs T false tok (by rfl) (by exact byObl) ?_
    rw [← eR]
    exact WP.ret (Ends.val (by rfl) (by exact byObl) (by rfl) (by exact sc_t2 (sc_ds _ _ _ _) trivial))
  have h0 := of_decide_eq_false h
  clear h
  refine WP.seq ?_
  refine WP.rs T false tok (by rfl) (by exact byObl) ?_
  refine WP.block ?_
  refine WP.loopH (⟨fun k : Nat => k ≤ m ∧ (∀ j, j < k → inI N (g j) = true) ∧ ∀ j, j < k → 0 < j → g (j - 1) < g j, fun k => [(1, .sl 0 0 m 1), (2, .p 1 [] 0), (4, .p 2 [] 0), (6, .i .i64 (k : Int))], fun k => [.ro m 1 (fun t => .i .i64 (g t)), .var (ds_ N b w), .var (ds_ 0 (fun _ => 0) (fun _ => 0))], fun k => m - k⟩) (0) (⟨Nat.zero_le _, fun j hj => absurd hj (Nat.not_lt_zero _), fun j hj => absurd hj (Nat.not_lt_zero _)⟩) (Ghost.cut (Nat.le_refl _) (tauOf [0, 1, 2]) _ _ (Taken.of [0, 1, 2] (LeAll.cons (by rfl) (by first | with_reducible exact Root.Le.refl _ | with_reducible exact le_dead | (skip; done) | exact byLeq) (by exact byCon) (LeAll.cons (by rfl) (by first | with_reducible exact Root.Le.refl _ | with_reducible exact le_dead | (skip; done) | exact byLeq) (by exact byCon) (LeAll.cons (by rfl) (by first | with_reducible exact Root.Le.refl _ | with_reducible exact le_dead | (skip; done) | exact byLeq) (by exact byCon) (trivial)))) rfl rfl) (by exact bySlots)) ?_
  rintro k ⟨hk, hin, has⟩
  dsimp only [Hd.at]
  refine WP.seq ?_
  refine WP.rs T false tok (by rfl) (by exact byObl) ?_
  refine WP.cond (by rfl) (fun hc => WP.skip ?_) (fun hc => WP.exit ?_)
  · have hk : k < m := by have := of_decide_eq_true hc; omega
    clear hc
    have ek : addrAt 0 ((k : Nat) : Int).toNat = k := by simp [addrAt0]
    have hl01 := l01In_fn (g k) 0 ((N : Int) - 1)
    have hk2 : k ≤ 1048576 := by omega
    refine WP.seq (WP.block ?_)
    refine WP.seq ?_
    refine WP.da (by kernel_rfl) 25 (by kernel_rfl) ?_
    refine WA.takes T false tok [0, 1, 2, 3, 4, 5, 6] (f' := 18) (by kernel_rfl) (by rfl) (by rfl) (by rfl) (by exact byObl) (by rfl) (by rfl) ?_
    refine WA.all [7] (by kernel_rfl) (by simp) ?_; intro i' hi'; simp only [List.mem_cons, List.not_mem_nil, or_false] at hi'
    subst hi'
    rw [ek]
    refine ⟨_, _, _, rfl, by rfl, by rfl, MK.callP (hl01) (by rfl) (by simp [Sc, sc_pl, sc_ds, pl_ne, ds_ne]), ?_⟩
    cases hc1 : (decide ((0 : Int) ≤ g k) && decide (g k ≤ (N : Int) - 1))
    case false =>
      have eR : t2 ds0 (.i .i64 2) = R := by
        rw [← hR]; unfold qbR
        rw [if_pos (.inr (.inl (allI_no hk (by
          unfold inI
          cases h1 : decide ((0 : Int) ≤ g k)
          · rfl
          · rw [h1, Bool.true_and] at hc1
            have := of_decide_eq_false hc1
            exact decide_eq_false (by omega)))))]
      refine WA.takes T false tok [8, 9] (f' := 15) (by kernel_rfl) (by rfl) (by rfl) (by rfl) (by exact byObl) (by rfl) (by rfl) ?_
      refine WA.skipU 10 (by rfl) (by kernel_rfl) (by kernel_rfl) (by rfl) (by rfl) ?_
      refine WA.skipU 11 (by rfl) (by kernel_rfl) (by kernel_rfl) (by rfl) (by rfl) ?_
      refine WA.skipU 12 (by rfl) (by kernel_rfl) (by kernel_rfl) (by rfl) (by rfl) ?_
      refine WA.skipU 13 (by rfl) (by kernel_rfl) (by kernel_rfl) (by rfl) (by rfl) ?_
      refine WA.skipU 14 (by rfl) (by kernel_rfl) (by kernel_rfl) (by rfl) (by rfl) ?_
      refine WA.skipU 15 (by rfl) (by kernel_rfl) (by kernel_rfl) (by rfl) (by rfl) ?_
      refine WA.skipU 16 (by rfl) (by kernel_rfl) (by kernel_rfl) (by rfl) (by rfl) ?_
      refine WA.skipU 17 (by rfl) (by kernel_rfl) (by kernel_rfl) (by rfl) (by rfl) ?_
      refine WA.skipU 18 (by rfl) (by kernel_rfl) (by kernel_rfl) (by rfl) (by rfl) ?_
      refine WA.skipU 19 (by rfl) (by kernel_rfl) (by kernel_rfl) (by rfl) (by rfl) ?_
      refine WA.skipU 20 (by rfl) (by kernel_rfl) (by kernel_rfl) (by rfl) (by rfl) ?_
      refine WA.skipU 21 (by rfl) (by kernel_rfl) (by kernel_rfl) (by rfl) (by rfl) ?_
      refine WA.skipU 22 (by rfl) (by kernel_rfl) (by kernel_rfl) (by rfl) (by rfl) ?_
      refine WA.skipU 23 (by rfl) (by kernel_rfl) (by kernel_rfl) (by rfl) (by rfl) ?_
      refine WA.takes T false tok [24] (f' := 0) (by kernel_rfl) (by rfl) (by rfl) (by rfl) (by exact byObl) (by rfl) (by rfl) ?_
      refine WA.tail (by rfl) (by rfl) (by kernel_rfl) ?_
      refine WPL.nil (noPan ?_)
      refine WP.cond (by rfl) (fun h => ?_) (fun h => WP.skip ?_)
      · refine WP.rs T false tok (by rfl) (by exact byObl) ?_
        rw [← eR]
        exact WP.ret (Ends.val (by rfl) (by exact byObl) (by rfl) (by exact sc_t2 (sc_ds _ _ _ _) trivial))
      · cases h
    case true =>
      have hin' : inI N (g k) = true := by
        rw [Bool.and_eq_true, decide_eq_true_eq, decide_eq_true_eq] at hc1
        unfold inI
        rw [decide_eq_true hc1.1, decide_eq_true (show g k < (N : Int) by omega)]; rfl
      refine WA.takes T false tok [8, 9, 10, 11] (f' := 13) (by kernel_rfl) (by rfl) (by rfl) (by rfl) (by exact byObl) (by rfl) (by rfl) ?_
      cases h2 : decide ((k : Int) > 0)
      case false =>
        have h2 := of_decide_eq_false h2
        refine WA.takes T false tok [12, 13, 14, 15, 16, 17, 18] (f' := 6) (by kernel_rfl) (by rfl) (by rfl) (by rfl) (by exact byObl) (by rfl) (by rfl) ?_
        refine WA.takes T false tok [19, 20, 21, 22, 23, 24] (f' := 0) (by kernel_rfl) (by rfl) (by rfl) (by rfl) (by exact byObl) (by rfl) (by rfl) ?_
        refine WA.tail (by rfl) (by rfl) (by kernel_rfl) ?_
        refine WPL.nil (noPan ?_)
        refine WP.cond (by rfl) (fun h => ?_) (fun h => WP.skip ?_)
        · cases h
        refine WP.run T false tok (by rfl) (by exact byObl) ?_
        refine Again.next (k + 1) (Ghost.cut (Nat.le_refl _) (tauOf [0, 1, 2]) _ _ (Taken.of [0, 1, 2] (LeAll.cons (by rfl) (by first | with_reducible exact Root.Le.refl _ | with_reducible exact le_dead | (skip; done) | exact byLeq) (by exact byCon) (LeAll.cons (by rfl) (by first | with_reducible exact Root.Le.refl _ | with_reducible exact le_dead | (skip; done) | exact byLeq) (by exact byCon) (LeAll.cons (by rfl) (by first | with_reducible exact Root.Le.refl _ | with_reducible exact le_dead | (skip; done) | exact byLeq) (by exact byCon) (trivial)))) rfl rfl) (by exact bySlots)) (⟨hk, fun j hj => by
          by_cases e : j = k
          · subst e; exact hin'
          · exact hin j (by omega), fun j hj hj0 => by
          by_cases e : j = k
          · subst e; omega
          · exact has j (by omega) hj0⟩) (by dsimp only; omega)
      case true =>
        have h2 := of_decide_eq_true h2
        refine WA.takes T false tok [12, 13, 14, 15, 16, 17, 18] (f' := 6) (by kernel_rfl) (by rfl) (by rfl) (by rfl) (by exact byObl) (by rfl) (by rfl) ?_
        refine WA.takes T false tok [19, 20, 21, 22, 23, 24] (f' := 0) (by kernel_rfl) (by rfl) (by rfl) (by rfl) (by exact byObl) (by rfl) (by rfl) ?_
        refine WA.tail (by rfl) (by rfl) (by kernel_rfl) ?_
        refine WPL.nil (noPan ?_)
        have ek1 : addrAt 0 (((k : Nat) : Int) - 1).toNat = k - 1 := by rw [show ((k : Nat) : Int) - 1 = ((k - 1 : Nat) : Int) by omega]; simp [addrAt0]
        refine WP.cond (by rfl) (fun h => ?_) (fun h => WP.skip ?_)
        · have h := of_decide_eq_true h
          rw [ek, ek1] at h
          have eR : t2 ds0 (.i .i64 2) = R := by rw [← hR]; unfold qbR; rw [if_pos (.inr (.inr (asc_no hk (by omega) (by omega))))]
          refine WP.rs T false tok (by rfl) (by exact byObl) ?_
          rw [← eR]
          exact WP.ret (Ends.val (by rfl) (by exact byObl) (by rfl) (by exact sc_t2 (sc_ds _ _ _ _) trivial))
        · have h := of_decide_eq_false h
          rw [ek, ek1] at h
          refine WP.run T false tok (by rfl) (by exact byObl) ?_
          refine Again.next (k + 1) (Ghost.cut (Nat.le_refl _) (tauOf [0, 1, 2]) _ _ (Taken.of [0, 1, 2] (LeAll.cons (by rfl) (by first | with_reducible exact Root.Le.refl _ | with_reducible exact le_dead | (skip; done) | exact byLeq) (by exact byCon) (LeAll.cons (by rfl) (by first | with_reducible exact Root.Le.refl _ | with_reducible exact le_dead | (skip; done) | exact byLeq) (by exact byCon) (LeAll.cons (by rfl) (by first | with_reducible exact Root.Le.refl _ | with_reducible exact le_dead | (skip; done) | exact byLeq) (by exact byCon) (trivial)))) rfl rfl) (by exact bySlots)) (⟨hk, fun j hj => by
            by_cases e : j = k
            · subst e; exact hin'
            · exact hin j (by omega), fun j hj hj0 => by
            by_cases e : j = k
            · subst e; omega
            · exact has j (by omega) hj0⟩) (by dsimp only; omega)
  · have hk : k = m := by have := of_decide_eq_false hc; omega
    subst hk
    have hgn : ∀ t, t < k → g t = ((g t).toNat : Int) ∧ (g t).toNat < N := fun t ht => by
      have h := hin t ht
      unfold inI at h
      rw [Bool.and_eq_true, decide_eq_true_eq, decide_eq_true_eq] at h
      omega
    have eR : qbG N b w (bkB k g) = R := by
      rw [← hR]; unfold qbR
      rw [if_neg (by rw [allI_iff.2 hin, asc_iff.2 has]; simp; omega)]
    have hq := l03Quotient_fn N b w hD hNp k (fun t => (g t).toNat) (by omega) hm (fun t ht => (hgn t ht).2)
    rw [show mskTo (fun t => (g t).toNat) k = bkB k g from rfl] at hq
    have hrow : ∀ j, j < k → nmF (fun t => (g t).toNat) j = .i .i64 (g j) := fun j hj => by unfold nmF; rw [← (hgn j hj).1]
    refine WP.ghost (Ghost.cut (Nat.le_refl _) (tauOf [0, 1, 2]) [(1, .sl 0 0 k 1), (2, .p 1 [] 0), (4, .p 2 [] 0)] [.ro k 1 (nmF fun t => (g t).toNat), .var (ds_ N b w), .var (ds_ 0 (fun _ => 0) (fun _ => 0))] (Taken.of [0, 1, 2] (LeAll.cons (by rfl) (by first | with_reducible exact Root.Le.refl _ | with_reducible exact le_dead | (exact le_ro (Nat.le_refl _) (fun j hj => hrow j hj)) | exact byLeq) (by exact byCon) (LeAll.cons (by rfl) (by first | with_reducible exact Root.Le.refl _ | with_reducible exact le_dead | (exact le_ro (Nat.le_refl _) (fun j hj => hrow j hj)) | exact byLeq) (by exact byCon) (LeAll.cons (by rfl) (by first | with_reducible exact Root.Le.refl _ | with_reducible exact le_dead | (exact le_ro (Nat.le_refl _) (fun j hj => hrow j hj)) | exact byLeq) (by exact byCon) (trivial)))) rfl rfl) (by exact bySlots)) ?_
    by_cases hB : Blk N [b, w] (bkB k g)
    · rw [qsG_yes hB] at hq
      rw [qbG_yes hB] at eR
      refine WP.rw ?_
      refine WPL.run T false 2 tok (by rfl) (by exact byObl) ?_
      refine WPL.callR [0] (hq) (by rfl) (LeAll.cons (by rfl) (by first | with_reducible exact Root.Le.refl _ | with_reducible exact le_dead | (skip; done) | exact byLeq) (by exact byCon) (trivial)) (by exact byArgs) (by rfl) (by rfl) (by simp [Sc, sc_pl, sc_ds]) ?_
      refine WPL.fin T false tok (by rfl) (by exact byObl) ?_
      refine WP.seq ?_
      refine WP.rs T false tok (by rfl) (by exact byObl) ?_
      refine WP.cond (by rfl) (fun h => ?_) (fun h => WP.skip ?_)
      · cases h
      refine WP.rs T false tok (by rfl) (by exact byObl) ?_
      rw [← eR]
      exact WP.ret (Ends.val (by rfl) (by exact byObl) (by rfl) (by exact sc_t2 (sc_ds _ _ _ _) trivial))
    · rw [qsG_no hB] at hq
      rw [qbG_no hB] at eR
      refine WP.rw ?_
      refine WPL.run T false 2 tok (by rfl) (by exact byObl) ?_
      refine WPL.callR [0] (hq) (by rfl) (LeAll.cons (by rfl) (by first | with_reducible exact Root.Le.refl _ | with_reducible exact le_dead | (skip; done) | exact byLeq) (by exact byCon) (trivial)) (by exact byArgs) (by rfl) (by rfl) (by simp [Sc, sc_pl, sc_ds]) ?_
      refine WPL.fin T false tok (by rfl) (by exact byObl) ?_
      refine WP.seq ?_
      refine WP.rs T false tok (by rfl) (by exact byObl) ?_
      refine WP.cond (by rfl) (fun h => ?_) (fun h => WP.skip ?_)
      · refine WP.rs T false tok (by rfl) (by exact byObl) ?_
        rw [← eR]
        exact WP.ret (Ends.val (by rfl) (by exact byObl) (by rfl) (by exact sc_t2 (sc_ds _ _ _ _) trivial))
      · cases h

def cpI (g : Nat → Int) (i j : Nat) : Int := if j < i then g j else 0
theorem cpI_step (g : Nat → Int) (i : Nat) : up (cpI g i) i (g i) = cpI g (i + 1) := by
  funext j
  unfold cpI up
  by_cases h : j = i
  · subst h; simp
  · rw [if_neg h]
    by_cases h2 : j < i
    · simp [h2, show j < i + 1 by omega]
    · simp [h2, show ¬ j < i + 1 by omega]

theorem toI_fn (n : Nat) (g : Nat → Int) (hn : n ≤ 4294967296) : FnS Try.prog 22 [.sl 0 0 n 1] [.ro n 1 (fun t => .i .i64 (g t))] (fun r m' => r = .sl 1 0 n 1 ∧ m' = [.ro n 1 (fun t => .i .i64 (g t)), .row 2 n 1 (fun t => .i .i64 (g t))]) := by
  refine FnS.intoN T tok Try.func22 (by rfl) rfl rfl rfl (by simp) ?_
  refine WP.rs T false tok (by rfl) (by exact byObl) ?_
  refine WP.rs T false tok (by rfl) (by exact byObl) ?_
  refine WP.seq ?_
  refine WP.rs T false tok (by rfl) (by exact byObl) ?_
  refine WP.block ?_
  refine WP.loopH (⟨fun i : Nat => i ≤ n, fun i => [(0, .sl 0 0 n 1), (3, .sl 1 0 n 1), (4, .i .i64 (i : Int))], fun i => [.ro n 1 (fun t => .i .i64 (g t)), .row 2 n 1 (fun j => .i .i64 (cpI g i j))], fun i => n - i⟩) (0) (Nat.zero_le _) (Ghost.cut (Nat.le_refl _) (tauOf [0, 1]) _ _ (Taken.of [0, 1] (LeAll.cons (by rfl) (by first | with_reducible exact Root.Le.refl _ | with_reducible exact le_dead | (exact le_row (Nat.le_refl _) (fun j hj => rfl)) | exact byLeq) (by exact byCon) (LeAll.cons (by rfl) (by first | with_reducible exact Root.Le.refl _ | with_reducible exact le_dead | (exact le_row (Nat.le_refl _) (fun j hj => rfl)) | exact byLeq) (by exact byCon) (trivial))) rfl rfl) (by exact bySlots)) ?_
  intro i hi
  dsimp only at hi
  dsimp only [Hd.at]
  refine WP.seq ?_
  refine WP.rs T false tok (by rfl) (by exact byObl) ?_
  refine WP.cond (by rfl) (fun hc => WP.skip ?_) (fun hc => WP.exit ?_)
  · have hi : i < n := by have := of_decide_eq_true hc; omega
    clear hc
    refine WP.seq (WP.block ?_)
    refine WP.run T false tok (by rfl) (by exact byObl) ?_
    refine WP.run T false tok (by rfl) (by exact byObl) ?_
    refine Again.next (i + 1) (Ghost.cut (Nat.le_refl _) (tauOf [0, 1]) _ _ (Taken.of [0, 1] (LeAll.cons (by rfl) (by first | with_reducible exact Root.Le.refl _ | with_reducible exact le_dead | (exact le_row (Nat.le_refl _) (fun j hj => congrFun (show (fun j => Dat.i .i64 (cpI g (i + 1) j)) = fup (fun j => .i .i64 (cpI g i j)) i (.i .i64 (g i)) from by rw [fup_i64, cpI_step]) j)) | exact byLeq) (by exact byCon) (LeAll.cons (by rfl) (by first | with_reducible exact Root.Le.refl _ | with_reducible exact le_dead | (exact le_row (Nat.le_refl _) (fun j hj => congrFun (show (fun j => Dat.i .i64 (cpI g (i + 1) j)) = fup (fun j => .i .i64 (cpI g i j)) i (.i .i64 (g i)) from by rw [fup_i64, cpI_step]) j)) | exact byLeq) (by exact byCon) (trivial))) rfl rfl) (by exact bySlots)) (hi) (by dsimp only; omega)
  · have hi : i = n := by have := of_decide_eq_false hc; omega
    subst hi
    refine WP.rs T false tok (by rfl) (by exact byObl) ?_
    exact WP.ret (Ends.new [0, 1] (by rfl) (by exact byObl) (LeAll.cons (by rfl) (by first | with_reducible exact Root.Le.refl _ | with_reducible exact le_dead | (exact le_row (Nat.le_refl _) (fun j hj => by unfold cpI; rw [if_pos hj])) | exact byLeq) (by exact byCon) (LeAll.cons (by rfl) (by first | with_reducible exact Root.Le.refl _ | with_reducible exact le_dead | (exact le_row (Nat.le_refl _) (fun j hj => by unfold cpI; rw [if_pos hj])) | exact byLeq) (by exact byCon) (trivial))) rfl rfl (rfl) (sc_sl rfl))

theorem qbR_form (N : Nat) (b w : Nat → Nat) (m : Nat) (g : Nat → Int) : ∃ M x y c, qbR N b w m g = t2 (ds_ M x y) (.i .i64 c) := by
  unfold qbR
  split
  · exact ⟨0, _, _, 2, rfl⟩
  · by_cases h : Blk N [b, w] (bkB m g)
    · rw [qbG_yes h]; exact ⟨_, _, _, 0, rfl⟩
    · rw [qbG_no h]; exact ⟨0, _, _, 5, rfl⟩

theorem law_QuotientByBlock (n : Int) (b w : Nat → Nat) (_hn : -9223372036854775808 ≤ n ∧ n ≤ 9223372036854775807) (hb : ∀ i, b i < 256) (hw : ∀ i, w i < 256) (m : Nat) (g : Nat → Int) (_hm : m ≤ maxLen) : FnR Try.prog 7 [ds_ n b w, .sl 0 0 m 1] [.ro m 1 (fun t => .i .i64 (g t))] (.b true) := by
  have hb' := lim_lt hb
  have hw' := lim_lt hw
  have hbz : ∀ i, 16 ≤ i → lim b i = 0 := fun i hi => by unfold lim; rw [if_neg (by omega)]
  have hwz : ∀ i, 16 ≤ i → lim w i = 0 := fun i hi => by unfold lim; rw [if_neg (by omega)]
  have htd := toDessin_fn n b w
  generalize lim b = b' at *
  generalize lim w = w' at *
  have key : m ≤ 1048576 → ∃ M x y c, FnR Try.prog 21 [ds_ n b' w', .sl 0 0 m 1] [.ro m 1 (fun t => .i .i64 (g t))] (t2 (ds_ M x y) (.i .i64 c)) ∧ FnR Try.prog 23 [ds_ n b' w', .sl 0 0 m 1] [.ro m 1 (fun t => .i .i64 (g t))] (t2 (ds_ M x y) (.i .i64 c)) := fun hm => by
    cases hc : desB n b' w'
    · exact ⟨0, _, _, 1, specQbNo_fn n b' w' hb' hw' hc m g, implQbNo_fn n b' w' hb' hw' hc m g⟩
    · obtain ⟨N, rfl, hD, hnb, hnw⟩ := des_np hc hbz hwz
      have hNp : ∀ p ∈ [b', w'], Np N p := fun p hp => by
        rcases List.mem_cons.1 hp with rfl | hp
        · exact hnb
        · rw [List.mem_singleton.1 hp]; exact hnw
      have h1 := specQb_fn N b' w' hD hc hNp hb' hw' m g hm
      have h2 := implQb_fn N b' w' hD hc hNp hb' hw' m g hm
      obtain ⟨M, x, y, c, e⟩ := qbR_form N b' w' m g
      rw [e] at h1 h2
      exact ⟨M, x, y, c, h1, h2⟩
  refine FnS.into T tok Try.func7 (by rfl) rfl rfl rfl (by simp) ?_
  refine WP.rs T false tok (by rfl) (by exact byObl) ?_
  refine WP.seq ?_
  refine WP.rs T false tok (by rfl) (by exact byObl) ?_
  refine WP.cond (by rfl) (fun h => ?_) (fun h => WP.skip ?_)
  · refine WP.rs T false tok (by rfl) (by exact byObl) ?_
    exact WP.ret (Ends.val (by rfl) (by exact byObl) (by rfl) (by trivial))
  have h := of_decide_eq_false h
  have hm2 : m ≤ 1048576 := by omega
  obtain ⟨M, x, y, c, hs, hi⟩ := key hm2
  have hto := toI_fn m g (by omega)
  have heq := eqS_fn m g (by omega)
  clear key h
  refine WP.rw ?_
  refine WPL.run T false 1 tok (by rfl) (by exact byObl) ?_
  refine WPL.call (htd) (by rfl) (by rfl) (by rfl) (by simp [Sc, sc_pl, sc_ds, pl_ne, ds_ne]) ?_
  refine WPL.run T false 1 tok (by rfl) (by exact byObl) ?_
  refine WPL.callN [0] (.sl 2 0 m 1) (hto) (LeAll.cons (by rfl) (by first | with_reducible exact Root.Le.refl _ | with_reducible exact le_dead | (skip; done) | exact byLeq) (by exact byCon) (trivial)) (by rfl) (by rfl) (by exact byArgs) (by rfl) (by rfl) (by simp [Sc, sc_pl, sc_ds]) (by exact byAllc) (rfl) (by exact bySc) rfl ?_
  refine WPL.callR [2] (hs) (by rfl) (LeAll.cons (by rfl) (by first | with_reducible exact Root.Le.refl _ | with_reducible exact le_dead | (skip; done) | exact byLeq) (by exact byCon) (trivial)) (by exact byArgs) (by rfl) (by rfl) (by simp [Sc, sc_pl, sc_ds]) ?_
  refine WPL.fin T false tok (by rfl) (by exact byObl) ?_
  refine WP.rw ?_
  refine WPL.run T false 1 tok (by rfl) (by exact byObl) ?_
  refine WPL.callN [0] (.sl 4 0 m 1) (hto) (LeAll.cons (by rfl) (by first | with_reducible exact Root.Le.refl _ | with_reducible exact le_dead | (skip; done) | exact byLeq) (by exact byCon) (trivial)) (by rfl) (by rfl) (by exact byArgs) (by rfl) (by rfl) (by simp [Sc, sc_pl, sc_ds]) (by exact byAllc) (rfl) (by exact bySc) rfl ?_
  refine WPL.fin T false tok (by rfl) (by exact byObl) ?_
  refine WP.rw ?_
  refine WPL.run T false 1 tok (by rfl) (by exact byObl) ?_
  refine WPL.call (htd) (by rfl) (by rfl) (by rfl) (by simp [Sc, sc_pl, sc_ds, pl_ne, ds_ne]) ?_
  refine WPL.run T false 1 tok (by rfl) (by exact byObl) ?_
  refine WPL.callR [4] (hi) (by rfl) (LeAll.cons (by rfl) (by first | with_reducible exact Root.Le.refl _ | with_reducible exact le_dead | (skip; done) | exact byLeq) (by exact byCon) (trivial)) (by exact byArgs) (by rfl) (by rfl) (by simp [Sc, sc_pl, sc_ds]) ?_
  refine WPL.fin T false tok (by rfl) (by exact byObl) ?_
  refine WP.seq ?_
  refine WP.rw ?_
  refine WPL.run T false 2 tok (by rfl) (by exact byObl) ?_
  refine WPL.call (eqDessin_same M x y) (by rfl) (by rfl) (by rfl) (by simp [Sc, sc_pl, sc_ds, pl_ne, ds_ne]) ?_
  refine WPL.run T false 5 tok (by rfl) (by exact byObl) ?_
  rw [decide_eq_true (rfl : c = c)]
  refine WPL.fin T false tok (by rfl) (by exact byObl) ?_
  refine WP.cond (by rfl) (fun h => ?_) (fun h => WP.skip ?_)
  · cases h
  refine WP.seq ?_
  refine WP.rw ?_
  refine WPL.run T false 2 tok (by rfl) (by exact byObl) ?_
  refine WPL.callN [0] (.sl 6 0 m 1) (hto) (LeAll.cons (by rfl) (by first | with_reducible exact Root.Le.refl _ | with_reducible exact le_dead | (skip; done) | exact byLeq) (by exact byCon) (trivial)) (by rfl) (by rfl) (by exact byArgs) (by rfl) (by rfl) (by simp [Sc, sc_pl, sc_ds]) (by exact byAllc) (rfl) (by exact bySc) rfl ?_
  refine WPL.callR [4, 6] (heq) (by rfl) (LeAll.cons (by rfl) (by first | with_reducible exact Root.Le.refl _ | with_reducible exact le_dead | (skip; done) | exact byLeq) (by exact byCon) (LeAll.cons (by rfl) (by first | with_reducible exact Root.Le.refl _ | with_reducible exact le_dead | (skip; done) | exact byLeq) (by exact byCon) (trivial))) (by exact byArgs) (by rfl) (by rfl) (by simp [Sc, sc_pl, sc_ds]) ?_
  refine WPL.fin T false tok (by rfl) (by exact byObl) ?_
  refine WP.cond (by rfl) (fun h => ?_) (fun h => WP.skip ?_)
  · cases h
  refine WP.rs T false tok (by rfl) (by exact byObl) ?_
  exact WP.ret (Ends.val (by rfl) (by exact byObl) (by rfl) (by trivial))

end Go.Proofs.Ytokhjhkicledmaa
