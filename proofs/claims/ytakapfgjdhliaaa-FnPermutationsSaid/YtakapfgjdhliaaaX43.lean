import Derived.Test.YtakapfgjdhliaaaX42
import Derived.Test.YtakapfgjdhliaaaL3
/- Types of permutations: the public functions; the law. -/
namespace Go.Proofs.Ytakapfgjdhliaaa
open Go.RowKit DM
set_option linter.unusedSimpArgs false
set_option linter.unusedVariables false
set_option maxRecDepth 100000
set_option maxHeartbeats 1000000

noncomputable def tyR (p : Nat → Nat) (n : Int) : Dat := bif permB p n then t2 (.sl 0 0 (tyN (cycs p n.toNat) n.toNat).length 1) (.i .i64 0) else t2 .ns (.i .i64 1)
noncomputable def tyM (p : Nat → Nat) (n : Int) : List Root := bif permB p n then [.row 2 (tyN (cycs p n.toNat) n.toNat).length 1 (numsF (tyN (cycs p n.toNat) n.toNat))] else []

theorem implType_fn (p : Nat → Nat) (hb : ∀ i, p i < 256) (n : Int) : FnS Try.prog 18 [pl p, .i .i64 n] [] (fun r m' => r = tyR p n ∧ m' = tyM p n) := by
  cases hc : permB p n
  · have e1 : tyR p n = t2 .ns (.i .i64 1) := by unfold tyR; rw [hc]; rfl
    have e2 : tyM p n = [] := by unfold tyM; rw [hc]; rfl
    rw [e1, e2]
    refine FnS.intoN T tok Try.func18 (by rfl) rfl rfl rfl (by simp) ?_
    refine WP.rs T false tok (by rfl) (by exact byObl) ?_
    refine WP.seq ?_
    refine WP.rw ?_
    refine WPL.run T false 2 tok (by rfl) (by exact byObl) ?_
    refine WPL.call (hc ▸ IsPermutation_fn p hb n) (by rfl) (by rfl) (by rfl) (by simp [Sc, sc_pl, sc_ds, pl_ne, ds_ne]) ?_
    refine WPL.fin T false tok (by rfl) (by exact byObl) ?_
    refine WP.cond (by rfl) (fun h => ?_) (fun h => WP.skip ?_)
    · refine WP.rs T false tok (by rfl) (by exact byObl) ?_
      exact WP.ret (Ends.new [] (by rfl) (by exact byObl) (trivial) rfl rfl (ren_t2 ⟨rfl, trivial⟩ ⟨rfl, trivial⟩) (sc_t2 trivial trivial))
    · cases h
  · obtain ⟨N, rfl, h1, h2, hP⟩ := perm_of_B hc
    have e1 : tyR p N = t2 (.sl 0 0 (tyN (cycs p N) N).length 1) (.i .i64 0) := by unfold tyR; rw [hc]; rfl
    have e2 : tyM p N = [.row 2 (tyN (cycs p N) N).length 1 (numsF (tyN (cycs p N) N))] := by unfold tyM; rw [hc]; rfl
    rw [e1, e2]
    refine FnS.intoN T tok Try.func18 (by rfl) rfl rfl rfl (by simp) ?_
    refine WP.rs T false tok (by rfl) (by exact byObl) ?_
    refine WP.seq ?_
    refine WP.rw ?_
    refine WPL.run T false 2 tok (by rfl) (by exact byObl) ?_
    refine WPL.call (hc ▸ IsPermutation_fn p hb N) (by rfl) (by rfl) (by rfl) (by simp [Sc, sc_pl, sc_ds, pl_ne, ds_ne]) ?_
    refine WPL.fin T false tok (by rfl) (by exact byObl) ?_
    refine WP.cond (by rfl) (fun h => ?_) (fun h => WP.skip ?_)
    · cases h
    refine WP.rw ?_
    refine WPL.run T false 2 tok (by rfl) (by exact byObl) ?_
    refine WPL.callN [] (.sl 1 0 (tyN (cycs p N) N).length 1) (typeOf_fn p N h2 hP) (trivial) (by rfl) (by rfl) (by exact byArgs) (by rfl) (by rfl) (by simp [Sc, sc_pl, sc_ds]) (by exact byAllc) (rfl) (by exact bySc) rfl ?_
    refine WPL.fin T false tok (by rfl) (by exact byObl) ?_
    exact WP.ret (Ends.new [1] (by rfl) (by exact byObl) (LeAll.cons (by rfl) (by first | with_reducible exact Root.Le.refl _ | with_reducible exact le_dead | (skip; done) | exact byLeq) (by exact byCon) (trivial)) rfl rfl (ren_t2 rfl ⟨rfl, trivial⟩) (sc_t2 (sc_sl rfl) trivial))

theorem specType_fn (p : Nat → Nat) (hb : ∀ i, p i < 256) (n : Int) : FnS Try.prog 26 [pl p, .i .i64 n] [] (fun r m' => r = tyR p n ∧ m' = tyM p n) := by
  cases hc : permB p n
  · have e1 : tyR p n = t2 .ns (.i .i64 1) := by unfold tyR; rw [hc]; rfl
    have e2 : tyM p n = [] := by unfold tyM; rw [hc]; rfl
    rw [e1, e2]
    refine FnS.intoN T tok Try.func26 (by rfl) rfl rfl rfl (by simp) ?_
    refine WP.rs T false tok (by rfl) (by exact byObl) ?_
    refine WP.seq ?_
    refine WP.rw ?_
    refine WPL.run T false 2 tok (by rfl) (by exact byObl) ?_
    refine WPL.call (hc ▸ l01Perm_fn p hb n) (by rfl) (by rfl) (by rfl) (by simp [Sc, sc_pl, sc_ds, pl_ne, ds_ne]) ?_
    refine WPL.fin T false tok (by rfl) (by exact byObl) ?_
    refine WP.cond (by rfl) (fun h => ?_) (fun h => WP.skip ?_)
    · refine WP.rs T false tok (by rfl) (by exact byObl) ?_
      exact WP.ret (Ends.new [] (by rfl) (by exact byObl) (trivial) rfl rfl (ren_t2 ⟨rfl, trivial⟩ ⟨rfl, trivial⟩) (sc_t2 trivial trivial))
    · cases h
  · obtain ⟨N, rfl, h1, h2, hP⟩ := perm_of_B hc
    have e1 : tyR p N = t2 (.sl 0 0 (tyN (cycs p N) N).length 1) (.i .i64 0) := by unfold tyR; rw [hc]; rfl
    have e2 : tyM p N = [.row 2 (tyN (cycs p N) N).length 1 (numsF (tyN (cycs p N) N))] := by unfold tyM; rw [hc]; rfl
    rw [e1, e2]
    refine FnS.intoN T tok Try.func26 (by rfl) rfl rfl rfl (by simp) ?_
    refine WP.rs T false tok (by rfl) (by exact byObl) ?_
    refine WP.seq ?_
    refine WP.rw ?_
    refine WPL.run T false 2 tok (by rfl) (by exact byObl) ?_
    refine WPL.call (hc ▸ l01Perm_fn p hb N) (by rfl) (by rfl) (by rfl) (by simp [Sc, sc_pl, sc_ds, pl_ne, ds_ne]) ?_
    refine WPL.fin T false tok (by rfl) (by exact byObl) ?_
    refine WP.cond (by rfl) (fun h => ?_) (fun h => WP.skip ?_)
    · cases h
    refine WP.rw ?_
    refine WPL.run T false 2 tok (by rfl) (by exact byObl) ?_
    refine WPL.callN [] (.sl 1 0 (tyN (cycs p N) N).length 1) (l01Type_fn p N h2 hP) (trivial) (by rfl) (by rfl) (by exact byArgs) (by rfl) (by rfl) (by simp [Sc, sc_pl, sc_ds]) (by exact byAllc) (rfl) (by exact bySc) rfl ?_
    refine WPL.fin T false tok (by rfl) (by exact byObl) ?_
    exact WP.ret (Ends.new [1] (by rfl) (by exact byObl) (LeAll.cons (by rfl) (by first | with_reducible exact Root.Le.refl _ | with_reducible exact le_dead | (skip; done) | exact byLeq) (by exact byCon) (trivial)) rfl rfl (ren_t2 rfl ⟨rfl, trivial⟩) (sc_t2 (sc_sl rfl) trivial))

end Go.Proofs.Ytakapfgjdhliaaa
