import Derived.Test.YtakapfgjdhliaaaX12
import Derived.Test.YtakapfgjdhliaaaD39
import Derived.Test.YtakapfgjdhliaaaX56
import Derived.Test.YtakapfgjdhliaaaX131
import Derived.Test.YtakapfgjdhliaaaL21
/- Two dessins: the reference's check of both. -/
namespace Go.Proofs.Ytakapfgjdhliaaa
open Go.RowKit DM
set_option linter.unusedSimpArgs false
set_option linter.unusedVariables false
set_option maxRecDepth 100000
set_option maxHeartbeats 1000000

noncomputable def bothB (n : Int) (b w : Nat → Nat) (n' : Int) (b' w' : Nat → Nat) : Bool := desB n b w && desB n' b' w'

theorem l02Both_fn (n n' : Int) (b w b' w' : Nat → Nat) (hb : ∀ i, b i < 256) (hw : ∀ i, w i < 256) (hb' : ∀ i, b' i < 256) (hw' : ∀ i, w' i < 256) : FnP Try.prog 67 [ds_ n b w, ds_ n' b' w'] (.i .i64 (bif bothB n b w n' b' w' then 0 else 1)) := by
  unfold bothB
  cases h1 : desB n b w
  · refine FnS.into T tok Try.func67 (by rfl) rfl rfl rfl (by simp) ?_
    refine WP.rs T false tok (by rfl) (by exact byObl) ?_
    refine WP.seq ?_
    refine WP.rw ?_
    refine WPL.run T false 1 tok (by rfl) (by exact byObl) ?_
    refine WPL.call (h1 ▸ l01Is_fn n b w hb hw) (by rfl) (by rfl) (by rfl) (by simp [Sc, sc_pl, sc_ds, pl_ne, ds_ne]) ?_
    refine WPL.fin T false tok (by rfl) (by exact byObl) ?_
    refine WP.cond (by rfl) (fun h => ?_) (fun h => WP.skip ?_)
    · refine WP.rs T false tok (by rfl) (by exact byObl) ?_
      exact WP.ret (Ends.val (by rfl) (by exact byObl) (by rfl) (by trivial))
    · cases h
  · cases h2 : desB n' b' w'
    · refine FnS.into T tok Try.func67 (by rfl) rfl rfl rfl (by simp) ?_
      refine WP.rs T false tok (by rfl) (by exact byObl) ?_
      refine WP.seq ?_
      refine WP.rw ?_
      refine WPL.run T false 1 tok (by rfl) (by exact byObl) ?_
      refine WPL.call (h1 ▸ l01Is_fn n b w hb hw) (by rfl) (by rfl) (by rfl) (by simp [Sc, sc_pl, sc_ds, pl_ne, ds_ne]) ?_
      refine WPL.run T false 3 tok (by rfl) (by exact byObl) ?_
      refine WPL.call (h2 ▸ l01Is_fn n' b' w' hb' hw') (by rfl) (by rfl) (by rfl) (by simp [Sc, sc_pl, sc_ds, pl_ne, ds_ne]) ?_
      refine WPL.fin T false tok (by rfl) (by exact byObl) ?_
      refine WP.cond (by rfl) (fun h => ?_) (fun h => WP.skip ?_)
      · refine WP.rs T false tok (by rfl) (by exact byObl) ?_
        exact WP.ret (Ends.val (by rfl) (by exact byObl) (by rfl) (by trivial))
      · cases h
    · refine FnS.into T tok Try.func67 (by rfl) rfl rfl rfl (by simp) ?_
      refine WP.rs T false tok (by rfl) (by exact byObl) ?_
      refine WP.seq ?_
      refine WP.rw ?_
      refine WPL.run T false 1 tok (by rfl) (by exact byObl) ?_
      refine WPL.call (h1 ▸ l01Is_fn n b w hb hw) (by rfl) (by rfl) (by rfl) (by simp [Sc, sc_pl, sc_ds, pl_ne, ds_ne]) ?_
      refine WPL.run T false 3 tok (by rfl) (by exact byObl) ?_
      refine WPL.call (h2 ▸ l01Is_fn n' b' w' hb' hw') (by rfl) (by rfl) (by rfl) (by simp [Sc, sc_pl, sc_ds, pl_ne, ds_ne]) ?_
      refine WPL.fin T false tok (by rfl) (by exact byObl) ?_
      refine WP.cond (by rfl) (fun h => ?_) (fun h => WP.skip ?_)
      · cases h
      refine WP.rs T false tok (by rfl) (by exact byObl) ?_
      exact WP.ret (Ends.val (by rfl) (by exact byObl) (by rfl) (by trivial))

end Go.Proofs.Ytakapfgjdhliaaa

/- IsomorphismsOf: the public functions; the law. -/
namespace Go.Proofs.Ytakapfgjdhliaaa
open Go.RowKit DM
set_option linter.unusedSimpArgs false
set_option linter.unusedVariables false
set_option maxRecDepth 100000
set_option maxHeartbeats 1000000

theorem isoR_len {N M : Nat} (hN : N ≤ 16) (b w b' w' : Nat → Nat) : (isoR N b w M b' w').length ≤ 16 := by
  unfold isoR
  by_cases h : N = M
  · rw [if_pos h]; have := isoL_len N b w b' w' N; omega
  · rw [if_neg h]; exact Nat.zero_le _

noncomputable def isosR (n : Int) (b w : Nat → Nat) (n' : Int) (b' w' : Nat → Nat) : Dat × List Root := bif bothB n b w n' b' w' then (t2 (.sl 0 0 (isoR n.toNat b w n'.toNat b' w').length 16) (.i .i64 0), [.row 25 (isoR n.toNat b w n'.toNat b' w').length 16 (plsF (isoR n.toNat b w n'.toNat b' w'))]) else (t2 .ns (.i .i64 1), [])

theorem specIsos_fn (n n' : Int) (b w b' w' : Nat → Nat) (hb : ∀ i, b i < 256) (hw : ∀ i, w i < 256) (hb' : ∀ i, b' i < 256) (hw' : ∀ i, w' i < 256) : FnS Try.prog 31 [ds_ n b w, ds_ n' b' w'] [] (fun r m' => r = (isosR n b w n' b' w').1 ∧ m' = (isosR n b w n' b' w').2) := by
  have hbo := l02Both_fn n n' b w b' w' hb hw hb' hw'
  cases hc : bothB n b w n' b' w'
  · have e : isosR n b w n' b' w' = (t2 .ns (.i .i64 1), []) := by unfold isosR; rw [hc]; rfl
    rw [e]
    rw [hc] at hbo
    refine FnS.intoN T tok Try.func31 (by rfl) rfl rfl rfl (by simp) ?_
    refine WP.rs T false tok (by rfl) (by exact byObl) ?_
    refine WP.seq ?_
    refine WP.rw ?_
    refine WPL.run T false 2 tok (by rfl) (by exact byObl) ?_
    refine WPL.call (hbo) (by rfl) (by rfl) (by rfl) (by simp [Sc, sc_pl, sc_ds, pl_ne, ds_ne]) ?_
    refine WPL.fin T false tok (by rfl) (by exact byObl) ?_
    refine WP.rs T false tok (by rfl) (by exact byObl) ?_
    refine WP.cond (by rfl) (fun h => ?_) (fun h => WP.skip ?_)
    · refine WP.rs T false tok (by rfl) (by exact byObl) ?_
      exact WP.ret (Ends.new [] (by rfl) (by exact byObl) (trivial) rfl rfl (ren_t2 ⟨rfl, trivial⟩ ⟨rfl, trivial⟩) (sc_t2 trivial trivial))
    · simp at h
  · have hcc := hc
    unfold bothB at hc
    obtain ⟨h1, h2⟩ := Bool.and_eq_true_iff.1 hc
    obtain ⟨N, rfl, hD⟩ := des_of_B h1
    obtain ⟨M, rfl, hD'⟩ := des_of_B h2
    have e : isosR N b w M b' w' = (t2 (.sl 0 0 (isoR N b w M b' w').length 16) (.i .i64 0), [.row 25 (isoR N b w M b' w').length 16 (plsF (isoR N b w M b' w'))]) := by unfold isosR; rw [hcc]; rfl
    rw [e]
    rw [hcc] at hbo
    have hal := l02All_fn N M b w b' w' hD hD'
    generalize isoR N b w M b' w' = L at *
    refine FnS.intoN T tok Try.func31 (by rfl) rfl rfl rfl (by simp) ?_
    refine WP.rs T false tok (by rfl) (by exact byObl) ?_
    refine WP.seq ?_
    refine WP.rw ?_
    refine WPL.run T false 2 tok (by rfl) (by exact byObl) ?_
    refine WPL.call (hbo) (by rfl) (by rfl) (by rfl) (by simp [Sc, sc_pl, sc_ds, pl_ne, ds_ne]) ?_
    refine WPL.fin T false tok (by rfl) (by exact byObl) ?_
    refine WP.rs T false tok (by rfl) (by exact byObl) ?_
    refine WP.cond (by rfl) (fun h => ?_) (fun h => WP.skip ?_)
    · simp at h
    clear h
    refine WP.rw ?_
    refine WPL.run T false 2 tok (by rfl) (by exact byObl) ?_
    refine WPL.callN [] (.sl 2 0 L.length 16) (hal) (trivial) (by rfl) (by rfl) (by exact byArgs) (by rfl) (by rfl) (by simp [Sc, sc_pl, sc_ds]) (by exact byAllc) (rfl) (by exact bySc) rfl ?_
    refine WPL.fin T false tok (by rfl) (by exact byObl) ?_
    exact WP.ret (Ends.new [2] (by rfl) (by exact byObl) (LeAll.cons (by rfl) (by first | with_reducible exact Root.Le.refl _ | with_reducible exact le_dead | (skip; done) | exact byLeq) (by exact byCon) (trivial)) rfl rfl (ren_t2 rfl ⟨rfl, trivial⟩) (sc_t2 (sc_sl rfl) trivial))

theorem implIsos_fn (n n' : Int) (b w b' w' : Nat → Nat) (hb : ∀ i, b i < 256) (hw : ∀ i, w i < 256) (hb' : ∀ i, b' i < 256) (hw' : ∀ i, w' i < 256) : FnS Try.prog 30 [ds_ n b w, ds_ n' b' w'] [] (fun r m' => r = (isosR n b w n' b' w').1 ∧ m' = (isosR n b w n' b' w').2) := by
  cases h1 : desB n b w
  · have e : isosR n b w n' b' w' = (t2 .ns (.i .i64 1), []) := by unfold isosR bothB; rw [h1]; rfl
    rw [e]
    refine FnS.intoN T tok Try.func30 (by rfl) rfl rfl rfl (by simp) ?_
    refine WP.rs T false tok (by rfl) (by exact byObl) ?_
    refine WP.seq ?_
    refine WP.rw ?_
    refine WPL.run T false 1 tok (by rfl) (by exact byObl) ?_
    refine WPL.call (h1 ▸ implIsDessin_fn n b w hb hw) (by rfl) (by rfl) (by rfl) (by simp [Sc, sc_pl, sc_ds, pl_ne, ds_ne]) ?_
    refine WPL.fin T false tok (by rfl) (by exact byObl) ?_
    refine WP.cond (by rfl) (fun h => ?_) (fun h => WP.skip ?_)
    · refine WP.rs T false tok (by rfl) (by exact byObl) ?_
      exact WP.ret (Ends.new [] (by rfl) (by exact byObl) (trivial) rfl rfl (ren_t2 ⟨rfl, trivial⟩ ⟨rfl, trivial⟩) (sc_t2 trivial trivial))
    · cases h
  · cases h2 : desB n' b' w'
    · have e : isosR n b w n' b' w' = (t2 .ns (.i .i64 1), []) := by unfold isosR bothB; rw [h1, h2]; rfl
      rw [e]
      refine FnS.intoN T tok Try.func30 (by rfl) rfl rfl rfl (by simp) ?_
      refine WP.rs T false tok (by rfl) (by exact byObl) ?_
      refine WP.seq ?_
      refine WP.rw ?_
      refine WPL.run T false 1 tok (by rfl) (by exact byObl) ?_
      refine WPL.call (h1 ▸ implIsDessin_fn n b w hb hw) (by rfl) (by rfl) (by rfl) (by simp [Sc, sc_pl, sc_ds, pl_ne, ds_ne]) ?_
      refine WPL.run T false 3 tok (by rfl) (by exact byObl) ?_
      refine WPL.call (h2 ▸ implIsDessin_fn n' b' w' hb' hw') (by rfl) (by rfl) (by rfl) (by simp [Sc, sc_pl, sc_ds, pl_ne, ds_ne]) ?_
      refine WPL.fin T false tok (by rfl) (by exact byObl) ?_
      refine WP.cond (by rfl) (fun h => ?_) (fun h => WP.skip ?_)
      · refine WP.rs T false tok (by rfl) (by exact byObl) ?_
        exact WP.ret (Ends.new [] (by rfl) (by exact byObl) (trivial) rfl rfl (ren_t2 ⟨rfl, trivial⟩ ⟨rfl, trivial⟩) (sc_t2 trivial trivial))
      · cases h
    · obtain ⟨N, rfl, hD⟩ := des_of_B h1
      obtain ⟨M, rfl, hD'⟩ := des_of_B h2
      have e : isosR N b w M b' w' = (t2 (.sl 0 0 (isoR N b w M b' w').length 16) (.i .i64 0), [.row 25 (isoR N b w M b' w').length 16 (plsF (isoR N b w M b' w'))]) := by unfold isosR bothB; rw [h1, h2]; rfl
      rw [e]
      have hal := isomorphisms_fn N M b w b' w' hD hD'
      generalize isoR N b w M b' w' = L at *
      refine FnS.intoN T tok Try.func30 (by rfl) rfl rfl rfl (by simp) ?_
      refine WP.rs T false tok (by rfl) (by exact byObl) ?_
      refine WP.seq ?_
      refine WP.rw ?_
      refine WPL.run T false 1 tok (by rfl) (by exact byObl) ?_
      refine WPL.call (h1 ▸ implIsDessin_fn N b w hb hw) (by rfl) (by rfl) (by rfl) (by simp [Sc, sc_pl, sc_ds, pl_ne, ds_ne]) ?_
      refine WPL.run T false 3 tok (by rfl) (by exact byObl) ?_
      refine WPL.call (h2 ▸ implIsDessin_fn M b' w' hb' hw') (by rfl) (by rfl) (by rfl) (by simp [Sc, sc_pl, sc_ds, pl_ne, ds_ne]) ?_
      refine WPL.fin T false tok (by rfl) (by exact byObl) ?_
      refine WP.cond (by rfl) (fun h => ?_) (fun h => WP.skip ?_)
      · cases h
      refine WP.rw ?_
      refine WPL.run T false 2 tok (by rfl) (by exact byObl) ?_
      refine WPL.callN [] (.sl 2 0 L.length 16) (hal) (trivial) (by rfl) (by rfl) (by exact byArgs) (by rfl) (by rfl) (by simp [Sc, sc_pl, sc_ds]) (by exact byAllc) (rfl) (by exact bySc) rfl ?_
      refine WPL.fin T false tok (by rfl) (by exact byObl) ?_
      exact WP.ret (Ends.new [2] (by rfl) (by exact byObl) (LeAll.cons (by rfl) (by first | with_reducible exact Root.Le.refl _ | with_reducible exact le_dead | (skip; done) | exact byLeq) (by exact byCon) (trivial)) rfl rfl (ren_t2 rfl ⟨rfl, trivial⟩) (sc_t2 (sc_sl rfl) trivial))

end Go.Proofs.Ytakapfgjdhliaaa

/- AutomorphismsOf: the public functions; the law. -/
namespace Go.Proofs.Ytakapfgjdhliaaa
open Go.RowKit DM
set_option linter.unusedSimpArgs false
set_option linter.unusedVariables false
set_option maxRecDepth 100000
set_option maxHeartbeats 1000000

theorem isosR_same (n : Int) (b w : Nat → Nat) : isosR n b w n b w = bif desB n b w then (t2 (.sl 0 0 (isoR n.toNat b w n.toNat b w).length 16) (.i .i64 0), [.row 25 (isoR n.toNat b w n.toNat b w).length 16 (plsF (isoR n.toNat b w n.toNat b w))]) else (t2 .ns (.i .i64 1), []) := by
  unfold isosR bothB; rw [Bool.and_self]

theorem specAuts_fn (n : Int) (b w : Nat → Nat) (hb : ∀ i, b i < 256) (hw : ∀ i, w i < 256) : FnS Try.prog 35 [ds_ n b w] [] (fun r m' => r = (isosR n b w n b w).1 ∧ m' = (isosR n b w n b w).2) := by
  rw [isosR_same]
  cases hc : desB n b w
  · rw [cond_false]
    refine FnS.intoN T tok Try.func35 (by rfl) rfl rfl rfl (by simp) ?_
    refine WP.rs T false tok (by rfl) (by exact byObl) ?_
    refine WP.seq ?_
    refine WP.rw ?_
    refine WPL.run T false 1 tok (by rfl) (by exact byObl) ?_
    refine WPL.call (hc ▸ l01Is_fn n b w hb hw) (by rfl) (by rfl) (by rfl) (by simp [Sc, sc_pl, sc_ds, pl_ne, ds_ne]) ?_
    refine WPL.fin T false tok (by rfl) (by exact byObl) ?_
    refine WP.cond (by rfl) (fun h => ?_) (fun h => WP.skip ?_)
    · refine WP.rs T false tok (by rfl) (by exact byObl) ?_
      exact WP.ret (Ends.new [] (by rfl) (by exact byObl) (trivial) rfl rfl (ren_t2 ⟨rfl, trivial⟩ ⟨rfl, trivial⟩) (sc_t2 trivial trivial))
    · cases h
  · rw [cond_true]
    obtain ⟨N, rfl, hD⟩ := des_of_B hc
    rw [Int.toNat_natCast]
    have hal := l02All_fn N N b w b w hD hD
    generalize isoR N b w N b w = L at *
    refine FnS.intoN T tok Try.func35 (by rfl) rfl rfl rfl (by simp) ?_
    refine WP.rs T false tok (by rfl) (by exact byObl) ?_
    refine WP.seq ?_
    refine WP.rw ?_
    refine WPL.run T false 1 tok (by rfl) (by exact byObl) ?_
    refine WPL.call (hc ▸ l01Is_fn N b w hb hw) (by rfl) (by rfl) (by rfl) (by simp [Sc, sc_pl, sc_ds, pl_ne, ds_ne]) ?_
    refine WPL.fin T false tok (by rfl) (by exact byObl) ?_
    refine WP.cond (by rfl) (fun h => ?_) (fun h => WP.skip ?_)
    · cases h
    refine WP.rw ?_
    refine WPL.run T false 2 tok (by rfl) (by exact byObl) ?_
    refine WPL.callN [] (.sl 1 0 L.length 16) (hal) (trivial) (by rfl) (by rfl) (by exact byArgs) (by rfl) (by rfl) (by simp [Sc, sc_pl, sc_ds]) (by exact byAllc) (rfl) (by exact bySc) rfl ?_
    refine WPL.fin T false tok (by rfl) (by exact byObl) ?_
    exact WP.ret (Ends.new [1] (by rfl) (by exact byObl) (LeAll.cons (by rfl) (by first | with_reducible exact Root.Le.refl _ | with_reducible exact le_dead | (skip; done) | exact byLeq) (by exact byCon) (trivial)) rfl rfl (ren_t2 rfl ⟨rfl, trivial⟩) (sc_t2 (sc_sl rfl) trivial))

theorem implAuts_fn (n : Int) (b w : Nat → Nat) (hb : ∀ i, b i < 256) (hw : ∀ i, w i < 256) : FnS Try.prog 34 [ds_ n b w] [] (fun r m' => r = (isosR n b w n b w).1 ∧ m' = (isosR n b w n b w).2) := by
  have hal := implIsos_fn n n b w b w hb hw hb hw
  rw [isosR_same] at hal ⊢
  cases hc : desB n b w
  · rw [hc, cond_false] at hal
    rw [cond_false]
    refine FnS.intoN T tok Try.func34 (by rfl) rfl rfl rfl (by simp) ?_
    refine WP.rs T false tok (by rfl) (by exact byObl) ?_
    refine WP.rw ?_
    refine WPL.run T false 2 tok (by rfl) (by exact byObl) ?_
    refine WPL.callN [] (t2 .ns (.i .i64 1)) (hal) (trivial) (by rfl) (by rfl) (by exact byArgs) (by rfl) (by rfl) (by simp [Sc, sc_pl, sc_ds]) (by exact byAllc) (ren_t2 ⟨rfl, trivial⟩ ⟨rfl, trivial⟩) (by exact bySc) rfl ?_
    refine WPL.fin T false tok (by rfl) (by exact byObl) ?_
    exact WP.ret (Ends.new [] (by rfl) (by exact byObl) (trivial) rfl rfl (ren_t2 ⟨rfl, trivial⟩ ⟨rfl, trivial⟩) (sc_t2 trivial trivial))
  · rw [hc, cond_true] at hal
    rw [cond_true]
    generalize isoR n.toNat b w n.toNat b w = L at *
    refine FnS.intoN T tok Try.func34 (by rfl) rfl rfl rfl (by simp) ?_
    refine WP.rs T false tok (by rfl) (by exact byObl) ?_
    refine WP.rw ?_
    refine WPL.run T false 2 tok (by rfl) (by exact byObl) ?_
    refine WPL.callN [] (t2 (.sl 1 0 L.length 16) (.i .i64 0)) (hal) (trivial) (by rfl) (by rfl) (by exact byArgs) (by rfl) (by rfl) (by simp [Sc, sc_pl, sc_ds]) (by exact byAllc) (ren_t2 rfl ⟨rfl, trivial⟩) (by exact bySc) rfl ?_
    refine WPL.fin T false tok (by rfl) (by exact byObl) ?_
    exact WP.ret (Ends.new [1] (by rfl) (by exact byObl) (LeAll.cons (by rfl) (by first | with_reducible exact Root.Le.refl _ | with_reducible exact le_dead | (skip; done) | exact byLeq) (by exact byCon) (trivial)) rfl rfl (ren_t2 rfl ⟨rfl, trivial⟩) (sc_t2 (sc_sl rfl) trivial))

end Go.Proofs.Ytakapfgjdhliaaa

/- IsRegularDessin: the law. -/
namespace Go.Proofs.Ytakapfgjdhliaaa
open Go.RowKit DM
set_option linter.unusedSimpArgs false
set_option linter.unusedVariables false
set_option maxRecDepth 100000
set_option maxHeartbeats 1000000

noncomputable def regR (n : Int) (b w : Nat → Nat) : Dat := bif desB n b w then t2 (.b (decide (((isoR n.toNat b w n.toNat b w).length : Int) = n))) (.i .i64 0) else t2 (.b false) (.i .i64 1)
theorem specReg_fn (n : Int) (b w : Nat → Nat) (hb : ∀ i, b i < 256) (hw : ∀ i, w i < 256) : FnP Try.prog 38 [ds_ n b w] (regR n b w) := by
  unfold regR
  cases hc : desB n b w
  · rw [cond_false]
    refine FnS.into T tok Try.func38 (by rfl) rfl rfl rfl (by simp) ?_
    refine WP.rs T false tok (by rfl) (by exact byObl) ?_
    refine WP.seq ?_
    refine WP.rw ?_
    refine WPL.run T false 1 tok (by rfl) (by exact byObl) ?_
    refine WPL.call (hc ▸ l01Is_fn n b w hb hw) (by rfl) (by rfl) (by rfl) (by simp [Sc, sc_pl, sc_ds, pl_ne, ds_ne]) ?_
    refine WPL.fin T false tok (by rfl) (by exact byObl) ?_
    refine WP.cond (by rfl) (fun h => ?_) (fun h => WP.skip ?_)
    · refine WP.rs T false tok (by rfl) (by exact byObl) ?_
      exact WP.ret (Ends.val (by rfl) (by exact byObl) (by rfl) (by exact sc_t2 trivial trivial))
    · cases h
  · rw [cond_true]
    obtain ⟨N, rfl, hD⟩ := des_of_B hc
    rw [Int.toNat_natCast]
    have hal := l02All_fn N N b w b w hD hD
    generalize isoR N b w N b w = L at *
    refine FnS.into T tok Try.func38 (by rfl) rfl rfl rfl (by simp) ?_
    refine WP.rs T false tok (by rfl) (by exact byObl) ?_
    refine WP.seq ?_
    refine WP.rw ?_
    refine WPL.run T false 1 tok (by rfl) (by exact byObl) ?_
    refine WPL.call (hc ▸ l01Is_fn N b w hb hw) (by rfl) (by rfl) (by rfl) (by simp [Sc, sc_pl, sc_ds, pl_ne, ds_ne]) ?_
    refine WPL.fin T false tok (by rfl) (by exact byObl) ?_
    refine WP.cond (by rfl) (fun h => ?_) (fun h => WP.skip ?_)
    · cases h
    refine WP.seq ?_
    refine WP.da (by kernel_rfl) 7 (by kernel_rfl) ?_
    refine WA.takes T false tok [0, 1, 4, 5] (f' := 5) (by kernel_rfl) (by rfl) (by rfl) (by rfl) (by exact byObl) (by rfl) (by rfl) ?_
    refine WA.all [2] (by kernel_rfl) (by simp) ?_; intro i' hi'; simp only [List.mem_cons, List.not_mem_nil, or_false] at hi'
    subst hi'
    refine ⟨_, _, _, rfl, by rfl, by rfl, MK.call [] (.sl 1 0 L.length 16) (hal) (trivial) (by rfl) (by exact .inl rfl) (by rfl) (by exact byArgs) (by simp [Sc, sc_pl, sc_ds]) (by exact byAllc) (by exact rfl) (by exact bySc) (by rfl), ?_⟩
    refine WA.takes T false tok [3, 6] (f' := 2) (by kernel_rfl) (by rfl) (by rfl) (by rfl) (by exact byObl) (by rfl) (by rfl) ?_
    refine WA.tail (by rfl) (by rfl) (by kernel_rfl) ?_
    refine WPL.fin T false tok (by rfl) (by exact byObl) ?_
    refine noPan ?_
    exact WP.ret (Ends.val (by rfl) (by exact byObl) (by rfl) (by exact sc_t2 trivial trivial))

theorem implReg_fn (n : Int) (b w : Nat → Nat) (hb : ∀ i, b i < 256) (hw : ∀ i, w i < 256) : FnP Try.prog 37 [ds_ n b w] (regR n b w) := by
  unfold regR
  cases hc : desB n b w
  · rw [cond_false]
    refine FnS.into T tok Try.func37 (by rfl) rfl rfl rfl (by simp) ?_
    refine WP.rs T false tok (by rfl) (by exact byObl) ?_
    refine WP.seq ?_
    refine WP.rw ?_
    refine WPL.run T false 1 tok (by rfl) (by exact byObl) ?_
    refine WPL.call (hc ▸ implIsDessin_fn n b w hb hw) (by rfl) (by rfl) (by rfl) (by simp [Sc, sc_pl, sc_ds, pl_ne, ds_ne]) ?_
    refine WPL.fin T false tok (by rfl) (by exact byObl) ?_
    refine WP.cond (by rfl) (fun h => ?_) (fun h => WP.skip ?_)
    · refine WP.rs T false tok (by rfl) (by exact byObl) ?_
      exact WP.ret (Ends.val (by rfl) (by exact byObl) (by rfl) (by exact sc_t2 trivial trivial))
    · cases h
  · rw [cond_true]
    obtain ⟨N, rfl, hD⟩ := des_of_B hc
    rw [Int.toNat_natCast]
    have hal := isomorphisms_fn N N b w b w hD hD
    generalize isoR N b w N b w = L at *
    refine FnS.into T tok Try.func37 (by rfl) rfl rfl rfl (by simp) ?_
    refine WP.rs T false tok (by rfl) (by exact byObl) ?_
    refine WP.seq ?_
    refine WP.rw ?_
    refine WPL.run T false 1 tok (by rfl) (by exact byObl) ?_
    refine WPL.call (hc ▸ implIsDessin_fn N b w hb hw) (by rfl) (by rfl) (by rfl) (by simp [Sc, sc_pl, sc_ds, pl_ne, ds_ne]) ?_
    refine WPL.fin T false tok (by rfl) (by exact byObl) ?_
    refine WP.cond (by rfl) (fun h => ?_) (fun h => WP.skip ?_)
    · cases h
    refine WP.seq ?_
    refine WP.da (by kernel_rfl) 7 (by kernel_rfl) ?_
    refine WA.takes T false tok [0, 1, 4, 5] (f' := 5) (by kernel_rfl) (by rfl) (by rfl) (by rfl) (by exact byObl) (by rfl) (by rfl) ?_
    refine WA.all [2] (by kernel_rfl) (by simp) ?_; intro i' hi'; simp only [List.mem_cons, List.not_mem_nil, or_false] at hi'
    subst hi'
    refine ⟨_, _, _, rfl, by rfl, by rfl, MK.call [] (.sl 1 0 L.length 16) (hal) (trivial) (by rfl) (by exact .inl rfl) (by rfl) (by exact byArgs) (by simp [Sc, sc_pl, sc_ds]) (by exact byAllc) (by exact rfl) (by exact bySc) (by rfl), ?_⟩
    refine WA.takes T false tok [3, 6] (f' := 2) (by kernel_rfl) (by rfl) (by rfl) (by rfl) (by exact byObl) (by rfl) (by rfl) ?_
    refine WA.tail (by rfl) (by rfl) (by kernel_rfl) ?_
    refine WPL.fin T false tok (by rfl) (by exact byObl) ?_
    refine noPan ?_
    exact WP.ret (Ends.val (by rfl) (by exact byObl) (by rfl) (by exact sc_t2 trivial trivial))

end Go.Proofs.Ytakapfgjdhliaaa

/- Groups by tables: the program's way to fill a table. -/
namespace Go.Proofs.Ytakapfgjdhliaaa
open Go.RowKit DM
set_option linter.unusedVariables false
set_option linter.unusedSimpArgs false

/-- The free places of a table. -/
def freeF (has : Nat → Nat → Bool) : Nat → Nat
  | 0 => 0
  | n + 1 => freeF has n + cntU 16 (has n)

theorem free_le (has : Nat → Nat → Bool) : ∀ n, freeF has n ≤ 16 * n
  | 0 => Nat.le_refl _
  | n + 1 => by
    have h1 := free_le has n
    have h2 := cntU_le 16 (has n)
    simp only [freeF]; omega

theorem free_same {has has' : Nat → Nat → Bool} : ∀ n, (∀ i, i < n → has i = has' i) → freeF has n = freeF has' n
  | 0, _ => rfl
  | n + 1, h => by simp only [freeF]; rw [free_same n fun i hi => h i (by omega), h n (by omega)]

theorem free_up {has : Nat → Nat → Bool} {l y : Nat} (hy : y < 16) (h : has l y = false) : ∀ n, l < n → freeF has n = freeF (up2 has l y true) n + 1
  | 0, hl => absurd hl (Nat.not_lt_zero _)
  | n + 1, hl => by
    simp only [freeF]
    have row : ∀ i, i ≠ l → up2 has l y true i = has i := fun i hi => by funext k; exact up2_ne _ _ fun e => hi e.1
    by_cases e : l = n
    · subst e
      have h1 : up2 has l y true l = up (has l) y true := by
        funext k; unfold up2 up
        by_cases ek : k = y
        · rw [if_pos ⟨rfl, ek⟩, if_pos ek]
        · rw [if_neg fun e => ek e.2, if_neg ek]
      rw [h1, cntU_up hy h, free_same l fun i hi => row i (by omega)]; omega
    · rw [row n (fun e2 => e e2.symm), free_up hy h n (by omega)]; omega

/-- What holds while the table is filled. -/
structure Fill (n : Nat) (gens : List (Nat → Nat)) (has : Nat → Nat → Bool) (tab : Nat → Nat → Nat → Nat) (E todo : List (Nat → Nat)) : Prop where
  T : TblOk n has tab
  inG : ∀ i k, i < n → has i k = true → Grp n gens (tab i k)
  ent : ∀ i k, i < n → has i k = true → tab i k = sameF n ∨ tab i k ∈ E
  els : ∀ p ∈ E, Grp n gens p
  prs : ∀ p ∈ E, ∀ q ∈ E, InT n has tab n (mulF n p q) ∨ mulF n p q ∈ todo
  gen : ∀ g ∈ gens, InT n has tab n g ∨ g ∈ todo
  tod : ∀ p ∈ todo, Grp n gens p
  len : E.length + freeF has n ≤ 256
  mem : 600 * freeF has n + todo.length ≤ 200000

def has0 (n i k : Nat) : Bool := decide (i = k) && decide (i < n)
def tab0 (n i k : Nat) : Nat → Nat := if i = k ∧ i < n then sameF n else fun _ => 0

theorem has0_t {n i k : Nat} (h : has0 n i k = true) : i = k ∧ i < n := by
  simpa [has0] using h
theorem tbl0 (n : Nat) : TblOk n (has0 n) (tab0 n) where
  diag i hi := ⟨by simp [has0, hi], by unfold tab0; rw [if_pos ⟨rfl, hi⟩]⟩
  lt i k hi h := by have := has0_t h; omega
  np i k hi h := by unfold tab0; rw [if_pos (has0_t h)]; exact one_np n
  fix i k hi h j hj := by unfold tab0; rw [if_pos (has0_t h)]; exact one_at (by omega)
  at_ i k hi h := by unfold tab0; rw [if_pos (has0_t h), one_at hi]; exact (has0_t h).1

theorem Fill.start {n : Nat} (hn : n ≤ 16) {gens : List (Nat → Nat)} (hg : ∀ g ∈ gens, Np n g) (hl : gens.length ≤ 1000) : Fill n gens (has0 n) (tab0 n) [] gens where
  T := tbl0 n
  inG i k hi h := by unfold tab0; rw [if_pos (has0_t h)]; exact .one
  ent i k hi h := .inl (by unfold tab0; rw [if_pos (has0_t h)])
  els p hp := by cases hp
  prs p hp := by cases hp
  gen g h := .inr h
  tod p hp := .gen hg hp
  len := by have := free_le (has0 n) n; simp only [List.length_nil]; omega
  mem := by have := free_le (has0 n) n; omega

theorem Fill.np {n : Nat} {gens : List (Nat → Nat)} (hg : ∀ g ∈ gens, Np n g) {has : Nat → Nat → Bool} {tab : Nat → Nat → Nat → Nat} {E todo : List (Nat → Nat)} (h : Fill n gens has tab E todo) {p : Nat → Nat} (hp : p ∈ todo) : Np n p := (h.tod p hp).np hg

theorem sift_top {n : Nat} (hn : n ≤ 16) {has : Nat → Nat → Bool} {tab : Nat → Nat → Nat → Nat} (hT : TblOk n has tab) {p : Nat → Nat} (hp : Np n p) : ((siftF n has tab n p).2 = n ∧ InT n has tab n p) ∨ Left n has tab n p (siftF n has tab n p).1 (siftF n has tab n p).2 :=
  sift_ok hn hT n (Nat.le_refl _) p hp fun j hj => absurd hj (by omega)

/-- One that belongs to the table already. -/
theorem Fill.skip {n : Nat} (hn : n ≤ 16) {gens : List (Nat → Nat)} (hg : ∀ g ∈ gens, Np n g) {has : Nat → Nat → Bool} {tab : Nat → Nat → Nat → Nat} {E T : List (Nat → Nat)} {p : Nat → Nat} (h : Fill n gens has tab E (T ++ [p])) (hs : (siftF n has tab n p).2 = n) : Fill n gens has tab E T := by
  have hp : InT n has tab n p := by
    rcases sift_top hn h.T (h.np hg (p := p) (by simp)) with ⟨_, h1⟩ | h1
    · exact h1
    · have := h1.lt; omega
  have old : ∀ q, InT n has tab n q ∨ q ∈ T ++ [p] → InT n has tab n q ∨ q ∈ T := fun q hq => by
    rcases hq with hq | hq
    · exact .inl hq
    · rcases List.mem_append.1 hq with hq | hq
      · exact .inr hq
      · simp only [List.mem_singleton] at hq
        subst hq; exact .inl hp
  refine ⟨h.T, h.inG, h.ent, h.els, fun a ha b hb => old _ (h.prs a ha b hb), fun g hgm => old _ (h.gen g hgm), fun q hq => h.tod q (by simp [hq]), h.len, ?_⟩
  have := h.mem
  simp only [List.length_append, List.length_singleton] at this
  omega

/-- The products of one with the first k of some. -/
def both (n : Nat) (r : Nat → Nat) (T E : List (Nat → Nat)) : Nat → List (Nat → Nat)
  | 0 => T
  | k + 1 => both n r T E k ++ [mulF n r (E.getD k fun _ => 0), mulF n (E.getD k fun _ => 0) r]

theorem both_len (n : Nat) (r : Nat → Nat) (T E : List (Nat → Nat)) : ∀ k, (both n r T E k).length = T.length + 2 * k
  | 0 => rfl
  | k + 1 => by simp only [both, List.length_append, both_len n r T E k, List.length_cons, List.length_nil]; omega

theorem both_mem {n : Nat} {r : Nat → Nat} {T E : List (Nat → Nat)} : ∀ {k : Nat} {q : Nat → Nat}, q ∈ both n r T E k ↔ q ∈ T ∨ ∃ j, j < k ∧ (q = mulF n r (E.getD j fun _ => 0) ∨ q = mulF n (E.getD j fun _ => 0) r)
  | 0, q => by simp [both]
  | k + 1, q => by
    simp only [both, List.mem_append, both_mem (k := k), List.mem_cons, List.not_mem_nil, or_false]
    constructor
    · rintro ((h | ⟨j, hj, h⟩) | h)
      · exact .inl h
      · exact .inr ⟨j, by omega, h⟩
      · exact .inr ⟨k, by omega, h⟩
    · rintro (h | ⟨j, hj, h⟩)
      · exact .inl (.inl h)
      · by_cases e : j = k
        · subst e; exact .inr h
        · exact .inl (.inr ⟨j, by omega, h⟩)

theorem mem_getDf {L : List (Nat → Nat)} {q : Nat → Nat} (h : q ∈ L) : ∃ j, j < L.length ∧ L.getD j (fun _ => 0) = q := by
  obtain ⟨j, hj, e⟩ := List.getElem_of_mem h
  exact ⟨j, hj, by rw [List.getD_eq_getElem?_getD, List.getElem?_eq_getElem hj]; exact e⟩
theorem getDf_mem {L : List (Nat → Nat)} {j : Nat} (h : j < L.length) : L.getD j (fun _ => 0) ∈ L := by
  rw [List.getD_eq_getElem?_getD, List.getElem?_eq_getElem h]; exact List.getElem_mem h

/-- One that is new. -/
theorem Fill.grow {n : Nat} (hn : n ≤ 16) {gens : List (Nat → Nat)} (hg : ∀ g ∈ gens, Np n g) {has : Nat → Nat → Bool} {tab : Nat → Nat → Nat → Nat} {E T : List (Nat → Nat)} {p r : Nat → Nat} {l : Nat} (h : Fill n gens has tab E (T ++ [p])) (hs : siftF n has tab n p = (r, l)) (hl : l ≠ n) :
    l < n ∧ Np n r ∧ r l < n ∧ E.length < 256 ∧ Fill n gens (up2 has l (r l) true) (up2 tab l (r l) r) (E ++ [r]) (both n r T (E ++ [r]) (E.length + 1)) ∧ 600 * freeF (up2 has l (r l) true) n + 600 ≤ 600 * freeF has n := by
  have hp : Left n has tab n p r l := by
    rcases sift_top hn h.T (h.np hg (p := p) (by simp)) with ⟨h1, _⟩ | h1
    · rw [hs] at h1; exact absurd h1 hl
    · rw [hs] at h1; exact h1
  have hrG : Grp n gens r := hp.grp gens hg h.inG (h.tod p (by simp))
  obtain ⟨hT', hE⟩ := tbl_add h.T hp.lt hp.np hp.fix hp.no
  have hrl := hp.np.perm.lt l hp.lt
  have hfree := free_up (has := has) (l := l) (y := r l) (by omega) hp.no n hp.lt
  have hpn : InT n (up2 has l (r l) true) (up2 tab l (r l) r) n p := hp.new _ _ hT' hE (up2_same _ _ _ _) (up2_same _ _ _ _)
  have hlen := h.len
  have hmem := h.mem
  have old : ∀ q, InT n has tab n q ∨ q ∈ T ++ [p] → InT n (up2 has l (r l) true) (up2 tab l (r l) r) n q ∨ q ∈ both n r T (E ++ [r]) (E.length + 1) := fun q hq => by
    rcases hq with hq | hq
    · exact .inl (InT.ext hE (Nat.le_refl _) hq)
    · rcases List.mem_append.1 hq with hq | hq
      · exact .inr (both_mem.2 (.inl hq))
      · simp only [List.mem_singleton] at hq
        subst hq; exact .inl hpn
  have new : ∀ q ∈ E ++ [r], mulF n r q ∈ both n r T (E ++ [r]) (E.length + 1) ∧ mulF n q r ∈ both n r T (E ++ [r]) (E.length + 1) := fun q hq => by
    obtain ⟨j, hj, e⟩ := mem_getDf hq
    simp only [List.length_append, List.length_singleton] at hj
    subst e
    exact ⟨both_mem.2 (.inr ⟨j, hj, .inl rfl⟩), both_mem.2 (.inr ⟨j, hj, .inr rfl⟩)⟩
  have hElG : ∀ q ∈ E ++ [r], Grp n gens q := fun q hq => by
    rcases List.mem_append.1 hq with hq | hq
    · exact h.els q hq
    · simp only [List.mem_singleton] at hq
      subst hq; exact hrG
  refine ⟨hp.lt, hp.np, hrl, by omega, ⟨hT', fun i k hi hk => ?_, fun i k hi hk => ?_, hElG, fun a ha b hb => ?_, fun g hgm => old g (h.gen g hgm), fun q hq => ?_, ?_, ?_⟩, by omega⟩
  · by_cases e : i = l ∧ k = r l
    · obtain ⟨rfl, rfl⟩ := e; rw [up2_same]; exact hrG
    · rw [up2_ne _ _ e] at hk ⊢; exact h.inG i k hi hk
  · by_cases e : i = l ∧ k = r l
    · obtain ⟨rfl, rfl⟩ := e; rw [up2_same]; exact .inr (by simp)
    · rw [up2_ne _ _ e] at hk ⊢
      rcases h.ent i k hi hk with h1 | h1
      · exact .inl h1
      · exact .inr (by simp [h1])
  · rcases List.mem_append.1 ha with ha' | ha'
    · rcases List.mem_append.1 hb with hb' | hb'
      · exact old _ (h.prs a ha' b hb')
      · simp only [List.mem_singleton] at hb'
        subst hb'; exact .inr (new a ha).2
    · simp only [List.mem_singleton] at ha'
      subst ha'; exact .inr (new b hb).1
  · rcases both_mem.1 hq with hq | ⟨j, hj, e | e⟩
    · exact h.tod q (by simp [hq])
    · have := hElG _ (getDf_mem (L := E ++ [r]) (j := j) (by simp; omega))
      rw [e]; exact hrG.comp hg this
    · have := hElG _ (getDf_mem (L := E ++ [r]) (j := j) (by simp; omega))
      rw [e]; exact this.comp hg hrG
  · simp only [List.length_append, List.length_singleton]; omega
  · rw [both_len]
    simp only [List.length_append, List.length_singleton] at hmem
    omega

/-- Nothing being left to do. -/
theorem Fill.done {n : Nat} (hn : n ≤ 16) {gens : List (Nat → Nat)} (hg : ∀ g ∈ gens, Np n g) {has : Nat → Nat → Bool} {tab : Nat → Nat → Nat → Nat} {E : List (Nat → Nat)} (h : Fill n gens has tab E []) : Tells n gens has ∧ ∀ g, Np n g → (InT n has tab n g ↔ Grp n gens g) := by
  have hall : ∀ g, Grp n gens g → InT n has tab n g := by
    refine tbl_all hn h.T (fun i k j l hi hj hk hl => ?_) fun g hgm => ?_
    · have up_to : ∀ i k, i < n → has i k = true → InT n has tab n (tab i k) := fun i k hi hk => by
        have h1 := InT.entry hn h.T (d := n - i - 1) (k := k) (by omega) (by rw [show n - (n - i - 1 + 1) = i by omega]; exact hk)
        rw [show n - (n - i - 1 + 1) = i by omega] at h1
        have ups : ∀ e d r, d + e ≤ n → InT n has tab d r → InT n has tab (d + e) r := fun e => by
          induction e with
          | zero => intro d r _ h; exact h
          | succ e ih => intro d r hd h2; exact InT.up hn h.T (by omega) (ih d r (by omega) h2)
        have := ups i (n - i - 1 + 1) _ (by omega) h1
        rwa [show n - i - 1 + 1 + i = n by omega] at this
      rcases h.ent i k hi hk with e | e
      · rw [e, one_mul (h.T.np j l hj hl)]; exact up_to j l hj hl
      · rcases h.ent j l hj hl with e2 | e2
        · rw [e2, mul_one (h.T.np i k hi hk)]; exact up_to i k hi hk
        · rcases h.prs _ e _ e2 with h1 | h1
          · exact h1
          · cases h1
    · rcases h.gen g hgm with h1 | h1
      · exact h1
      · cases h1
  exact ⟨tells_of hn h.T hg h.inG hall, fun g _ => ⟨fun h1 => InT.grp h.T hg h.inG (Nat.le_refl _) h1, hall g⟩⟩

end Go.Proofs.Ytakapfgjdhliaaa
