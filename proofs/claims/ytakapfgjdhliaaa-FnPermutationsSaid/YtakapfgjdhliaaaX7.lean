import Derived.Test.YtakapfgjdhliaaaX4
/- Constants, chains, and the permutation that leads back. -/
namespace Go.Proofs.Ytakapfgjdhliaaa
open Go.RowKit DM
set_option linter.unusedSimpArgs false
set_option linter.unusedVariables false
set_option maxRecDepth 100000
set_option maxHeartbeats 1000000

/-! ### Chains -/
/-- The two arrays of a chain after k steps. -/
def chainB (n : Nat) : Nat → Nat → Nat
  | 0 => fillF (fun i => i) n
  | k + 1 => if k % 2 = 0 then chainB n k else up (up (chainB n k) k (k + 1)) (k + 1) k
/-! ### The permutation that leads back -/
noncomputable def backR (p : Nat → Nat) (n : Int) : Dat := if permB p n = true then t2 (pl (backTo p n.toNat)) (.i .i64 0) else t2 (pl fun _ => 0) (.i .i64 1)
theorem specBack_fn (p : Nat → Nat) (hb : ∀ i, p i < 256) (n : Int) : FnP Try.prog 10 [pl p, .i .i64 n] (backR p n) := by
  refine FnS.into T tok Try.func10 (by rfl) rfl rfl rfl (by simp) ?_
  refine WP.rs T false tok (by rfl) (by exact byObl) ?_
  refine WP.seq ?_
  refine WP.rw ?_
  refine WPL.run T false 2 tok (by rfl) (by exact byObl) ?_
  refine WPL.call (l01Perm_fn p hb n) (by rfl) (by rfl) (by rfl) (by simp [Sc, sc_pl, sc_ds, pl_ne, ds_ne]) ?_
  refine WPL.fin T false tok (by rfl) (by exact byObl) ?_
  cases hc : permB p n
  · have e : backR p n = t2 (pl fun _ => 0) (.i .i64 1) := by unfold backR; rw [hc]; rfl
    refine WP.cond (by rfl) (fun h => ?_) (fun h => WP.skip ?_)
    · refine WP.rs T false tok (by rfl) (by exact byObl) ?_
      rw [e]
      exact WP.ret (Ends.val (by rfl) (by exact byObl) (by rfl) (by exact sc_t2 (sc_pl _ _) trivial))
    · cases h
  · obtain ⟨N, rfl, h1, h2, hp⟩ := perm_of_B hc
    have e : backR p N = t2 (pl (backTo p N)) (.i .i64 0) := by unfold backR; rw [hc]; rfl
    refine WP.cond (by rfl) (fun h => ?_) (fun h => WP.skip ?_)
    · cases h
    refine WP.rw ?_
    refine WPL.run T false 2 tok (by rfl) (by exact byObl) ?_
    refine WPL.call (l01Back_fn p N h2 hp.lt) (by rfl) (by rfl) (by rfl) (by simp [Sc, sc_pl, sc_ds, pl_ne, ds_ne]) ?_
    refine WPL.fin T false tok (by rfl) (by exact byObl) ?_
    rw [e]
    exact WP.ret (Ends.val (by rfl) (by exact byObl) (by rfl) (by exact sc_t2 (sc_pl _ _) trivial))

theorem implBack_fn (p : Nat → Nat) (hb : ∀ i, p i < 256) (n : Int) : FnP Try.prog 9 [pl p, .i .i64 n] (backR p n) := by
  refine FnS.into T tok Try.func9 (by rfl) rfl rfl rfl (by simp) ?_
  refine WP.rs T false tok (by rfl) (by exact byObl) ?_
  refine WP.seq ?_
  refine WP.rw ?_
  refine WPL.run T false 2 tok (by rfl) (by exact byObl) ?_
  refine WPL.call (IsPermutation_fn p hb n) (by rfl) (by rfl) (by rfl) (by simp [Sc, sc_pl, sc_ds, pl_ne, ds_ne]) ?_
  refine WPL.fin T false tok (by rfl) (by exact byObl) ?_
  cases hc : permB p n
  · have e : backR p n = t2 (pl fun _ => 0) (.i .i64 1) := by unfold backR; rw [hc]; rfl
    refine WP.cond (by rfl) (fun h => ?_) (fun h => WP.skip ?_)
    · refine WP.rs T false tok (by rfl) (by exact byObl) ?_
      rw [e]
      exact WP.ret (Ends.val (by rfl) (by exact byObl) (by rfl) (by exact sc_t2 (sc_pl _ _) trivial))
    · cases h
  · obtain ⟨N, rfl, h1, h2, hp⟩ := perm_of_B hc
    have e : backR p N = t2 (pl (backTo p N)) (.i .i64 0) := by unfold backR; rw [hc]; rfl
    refine WP.cond (by rfl) (fun h => ?_) (fun h => WP.skip ?_)
    · cases h
    refine WP.rw ?_
    refine WPL.run T false 2 tok (by rfl) (by exact byObl) ?_
    refine WPL.call (back_fn p N h2 hp.lt) (by rfl) (by rfl) (by rfl) (by simp [Sc, sc_pl, sc_ds, pl_ne, ds_ne]) ?_
    refine WPL.fin T false tok (by rfl) (by exact byObl) ?_
    rw [e]
    exact WP.ret (Ends.val (by rfl) (by exact byObl) (by rfl) (by exact sc_t2 (sc_pl _ _) trivial))

end Go.Proofs.Ytakapfgjdhliaaa

/- Permutations one after the other: both sides; the law. -/
namespace Go.Proofs.Ytakapfgjdhliaaa
open Go.RowKit DM
set_option linter.unusedSimpArgs false
set_option linter.unusedVariables false
set_option maxRecDepth 100000
set_option maxHeartbeats 1000000

noncomputable def thenR (p q : Nat → Nat) (n : Int) : Dat := bif permB p n && permB q n then t2 (pl (fillF (fun i => q (p i)) n.toNat)) (.i .i64 0) else t2 (pl fun _ => 0) (.i .i64 1)

theorem specThen_fn (p q : Nat → Nat) (hp : ∀ i, p i < 256) (hq : ∀ i, q i < 256) (n : Int) : FnP Try.prog 8 [pl p, pl q, .i .i64 n] (thenR p q n) := by
  refine FnS.into T tok Try.func8 (by rfl) rfl rfl rfl (by simp) ?_
  refine WP.rs T false tok (by rfl) (by exact byObl) ?_
  refine WP.seq ?_
  cases hc : permB p n
  · have e : thenR p q n = t2 (pl fun _ => 0) (.i .i64 1) := by unfold thenR; rw [hc]; rfl
    refine WP.rw ?_
    refine WPL.run T false 2 tok (by rfl) (by exact byObl) ?_
    refine WPL.call (hc ▸ l01Perm_fn p hp n) (by rfl) (by rfl) (by rfl) (by simp [Sc, sc_pl, sc_ds, pl_ne, ds_ne]) ?_
    refine WPL.fin T false tok (by rfl) (by exact byObl) ?_
    refine WP.cond (by rfl) (fun h => ?_) (fun h => WP.skip ?_)
    · refine WP.rs T false tok (by rfl) (by exact byObl) ?_
      rw [e]
      exact WP.ret (Ends.val (by rfl) (by exact byObl) (by rfl) (by exact sc_t2 (sc_pl _ _) trivial))
    · cases h
  · cases hd : permB q n
    · have e : thenR p q n = t2 (pl fun _ => 0) (.i .i64 1) := by unfold thenR; rw [hc, hd]; rfl
      refine WP.rw ?_
      refine WPL.run T false 2 tok (by rfl) (by exact byObl) ?_
      refine WPL.call (hc ▸ l01Perm_fn p hp n) (by rfl) (by rfl) (by rfl) (by simp [Sc, sc_pl, sc_ds, pl_ne, ds_ne]) ?_
      refine WPL.run T false 4 tok (by rfl) (by exact byObl) ?_
      refine WPL.call (hd ▸ l01Perm_fn q hq n) (by rfl) (by rfl) (by rfl) (by simp [Sc, sc_pl, sc_ds, pl_ne, ds_ne]) ?_
      refine WPL.fin T false tok (by rfl) (by exact byObl) ?_
      refine WP.cond (by rfl) (fun h => ?_) (fun h => WP.skip ?_)
      · refine WP.rs T false tok (by rfl) (by exact byObl) ?_
        rw [e]
        exact WP.ret (Ends.val (by rfl) (by exact byObl) (by rfl) (by exact sc_t2 (sc_pl _ _) trivial))
      · cases h
    · obtain ⟨N, rfl, h1, h2, hP⟩ := perm_of_B hc
      have e : thenR p q N = t2 (pl (fillF (fun i => q (p i)) N)) (.i .i64 0) := by unfold thenR; rw [hc, hd]; rfl
      refine WP.rw ?_
      refine WPL.run T false 2 tok (by rfl) (by exact byObl) ?_
      refine WPL.call (hc ▸ l01Perm_fn p hp N) (by rfl) (by rfl) (by rfl) (by simp [Sc, sc_pl, sc_ds, pl_ne, ds_ne]) ?_
      refine WPL.run T false 4 tok (by rfl) (by exact byObl) ?_
      refine WPL.call (hd ▸ l01Perm_fn q hq N) (by rfl) (by rfl) (by rfl) (by simp [Sc, sc_pl, sc_ds, pl_ne, ds_ne]) ?_
      refine WPL.fin T false tok (by rfl) (by exact byObl) ?_
      refine WP.cond (by rfl) (fun h => ?_) (fun h => WP.skip ?_)
      · cases h
      refine WP.rw ?_
      refine WPL.run T false 3 tok (by rfl) (by exact byObl) ?_
      refine WPL.call (l01Then_fn p q N h2 hP.lt) (by rfl) (by rfl) (by rfl) (by simp [Sc, sc_pl, sc_ds, pl_ne, ds_ne]) ?_
      refine WPL.fin T false tok (by rfl) (by exact byObl) ?_
      rw [e]
      exact WP.ret (Ends.val (by rfl) (by exact byObl) (by rfl) (by exact sc_t2 (sc_pl _ _) trivial))

theorem implThen_fn (p q : Nat → Nat) (hp : ∀ i, p i < 256) (hq : ∀ i, q i < 256) (n : Int) : FnP Try.prog 7 [pl p, pl q, .i .i64 n] (thenR p q n) := by
  refine FnS.into T tok Try.func7 (by rfl) rfl rfl rfl (by simp) ?_
  refine WP.rs T false tok (by rfl) (by exact byObl) ?_
  refine WP.seq ?_
  cases hc : permB p n
  · have e : thenR p q n = t2 (pl fun _ => 0) (.i .i64 1) := by unfold thenR; rw [hc]; rfl
    refine WP.rw ?_
    refine WPL.run T false 2 tok (by rfl) (by exact byObl) ?_
    refine WPL.call (hc ▸ IsPermutation_fn p hp n) (by rfl) (by rfl) (by rfl) (by simp [Sc, sc_pl, sc_ds, pl_ne, ds_ne]) ?_
    refine WPL.fin T false tok (by rfl) (by exact byObl) ?_
    refine WP.cond (by rfl) (fun h => ?_) (fun h => WP.skip ?_)
    · refine WP.rs T false tok (by rfl) (by exact byObl) ?_
      rw [e]
      exact WP.ret (Ends.val (by rfl) (by exact byObl) (by rfl) (by exact sc_t2 (sc_pl _ _) trivial))
    · cases h
  · cases hd : permB q n
    · have e : thenR p q n = t2 (pl fun _ => 0) (.i .i64 1) := by unfold thenR; rw [hc, hd]; rfl
      refine WP.rw ?_
      refine WPL.run T false 2 tok (by rfl) (by exact byObl) ?_
      refine WPL.call (hc ▸ IsPermutation_fn p hp n) (by rfl) (by rfl) (by rfl) (by simp [Sc, sc_pl, sc_ds, pl_ne, ds_ne]) ?_
      refine WPL.run T false 4 tok (by rfl) (by exact byObl) ?_
      refine WPL.call (hd ▸ IsPermutation_fn q hq n) (by rfl) (by rfl) (by rfl) (by simp [Sc, sc_pl, sc_ds, pl_ne, ds_ne]) ?_
      refine WPL.fin T false tok (by rfl) (by exact byObl) ?_
      refine WP.cond (by rfl) (fun h => ?_) (fun h => WP.skip ?_)
      · refine WP.rs T false tok (by rfl) (by exact byObl) ?_
        rw [e]
        exact WP.ret (Ends.val (by rfl) (by exact byObl) (by rfl) (by exact sc_t2 (sc_pl _ _) trivial))
      · cases h
    · obtain ⟨N, rfl, h1, h2, hP⟩ := perm_of_B hc
      have e : thenR p q N = t2 (pl (fillF (fun i => q (p i)) N)) (.i .i64 0) := by unfold thenR; rw [hc, hd]; rfl
      refine WP.rw ?_
      refine WPL.run T false 2 tok (by rfl) (by exact byObl) ?_
      refine WPL.call (hc ▸ IsPermutation_fn p hp N) (by rfl) (by rfl) (by rfl) (by simp [Sc, sc_pl, sc_ds, pl_ne, ds_ne]) ?_
      refine WPL.run T false 4 tok (by rfl) (by exact byObl) ?_
      refine WPL.call (hd ▸ IsPermutation_fn q hq N) (by rfl) (by rfl) (by rfl) (by simp [Sc, sc_pl, sc_ds, pl_ne, ds_ne]) ?_
      refine WPL.fin T false tok (by rfl) (by exact byObl) ?_
      refine WP.cond (by rfl) (fun h => ?_) (fun h => WP.skip ?_)
      · cases h
      refine WP.rw ?_
      refine WPL.run T false 3 tok (by rfl) (by exact byObl) ?_
      refine WPL.call (then_fn p q N h2 hP.lt) (by rfl) (by rfl) (by rfl) (by simp [Sc, sc_pl, sc_ds, pl_ne, ds_ne]) ?_
      refine WPL.fin T false tok (by rfl) (by exact byObl) ?_
      rw [e]
      exact WP.ret (Ends.val (by rfl) (by exact byObl) (by rfl) (by exact sc_t2 (sc_pl _ _) trivial))

end Go.Proofs.Ytakapfgjdhliaaa
