import Derived.Test.YtaafldclbdlgfaaX9
/- Two dessins: the reference's check of both. -/
namespace Go.Proofs.Ytaafldclbdlgfaa
open Go.RowKit DM
set_option linter.unusedSimpArgs false
set_option linter.unusedVariables false
set_option maxRecDepth 100000
set_option maxHeartbeats 1000000

noncomputable def bothB (n : Int) (b w : Nat → Nat) (n' : Int) (b' w' : Nat → Nat) : Bool := desB n b w && desB n' b' w'

theorem l02Both_fn (n n' : Int) (b w b' w' : Nat → Nat) (hb : ∀ i, b i < 256) (hw : ∀ i, w i < 256) (hb' : ∀ i, b' i < 256) (hw' : ∀ i, w' i < 256) : FnP Try.prog 26 [ds_ n b w, ds_ n' b' w'] (.i .i64 (bif bothB n b w n' b' w' then 0 else 1)) := by
  unfold bothB
  cases h1 : desB n b w
  · refine FnS.into T tok Try.func26 (by rfl) rfl rfl rfl (by simp) ?_
    refine WP.rs T false tok (by rfl) (by exact byObl) ?_
    refine WP.seq ?_
    refine WP.rw ?_
    refine WPL.run T false 1 tok (by rfl) (by exact byObl) ?_
    refine WPL.call (h1 ▸ l01Is_fn n b w hb hw) (by rfl) (by rfl) (by rfl) (by simp [Sc, sc_pl, sc_ds, pl_ne, ds_ne]) ?_
    refine WPL.fin T false tok (by rfl) (by exact byObl) ?_
    refine WP.cond (by rfl) (fun h => ?_) (fun h => WP.skip ?_)
    · refine WP.rs T false tok (by rfl) (by exact byObl) ?_
      exact WP.ret (Ends.val (by rfl) (by exact byObl) (by rfl) (by trivial))
    · cases h
  · cases h2 : desB n' b' w'
    · refine FnS.into T tok Try.func26 (by rfl) rfl rfl rfl (by simp) ?_
      refine WP.rs T false tok (by rfl) (by exact byObl) ?_
      refine WP.seq ?_
      refine WP.rw ?_
      refine WPL.run T false 1 tok (by rfl) (by exact byObl) ?_
      refine WPL.call (h1 ▸ l01Is_fn n b w hb hw) (by rfl) (by rfl) (by rfl) (by simp [Sc, sc_pl, sc_ds, pl_ne, ds_ne]) ?_
      refine WPL.run T false 3 tok (by rfl) (by exact byObl) ?_
      refine WPL.call (h2 ▸ l01Is_fn n' b' w' hb' hw') (by rfl) (by rfl) (by rfl) (by simp [Sc, sc_pl, sc_ds, pl_ne, ds_ne]) ?_
      refine WPL.fin T false tok (by rfl) (by exact byObl) ?_
      refine WP.cond (by rfl) (fun h => ?_) (fun h => WP.skip ?_)
      · refine WP.rs T false tok (by rfl) (by exact byObl) ?_
        exact WP.ret (Ends.val (by rfl) (by exact byObl) (by rfl) (by trivial))
      · cases h
    · refine FnS.into T tok Try.func26 (by rfl) rfl rfl rfl (by simp) ?_
      refine WP.rs T false tok (by rfl) (by exact byObl) ?_
      refine WP.seq ?_
      refine WP.rw ?_
      refine WPL.run T false 1 tok (by rfl) (by exact byObl) ?_
      refine WPL.call (h1 ▸ l01Is_fn n b w hb hw) (by rfl) (by rfl) (by rfl) (by simp [Sc, sc_pl, sc_ds, pl_ne, ds_ne]) ?_
      refine WPL.run T false 3 tok (by rfl) (by exact byObl) ?_
      refine WPL.call (h2 ▸ l01Is_fn n' b' w' hb' hw') (by rfl) (by rfl) (by rfl) (by simp [Sc, sc_pl, sc_ds, pl_ne, ds_ne]) ?_
      refine WPL.fin T false tok (by rfl) (by exact byObl) ?_
      refine WP.cond (by rfl) (fun h => ?_) (fun h => WP.skip ?_)
      · cases h
      refine WP.rs T false tok (by rfl) (by exact byObl) ?_
      exact WP.ret (Ends.val (by rfl) (by exact byObl) (by rfl) (by trivial))

end Go.Proofs.Ytaafldclbdlgfaa
