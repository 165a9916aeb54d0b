import Derived.Test.YtakapfgjdhliaaaX145
import Derived.Test.YtakapfgjdhliaaaL22
import Derived.Test.YtakapfgjdhliaaaX83
import Derived.Test.YtakapfgjdhliaaaL41
import Derived.Test.YtakapfgjdhliaaaL48
import Derived.Test.YtakapfgjdhliaaaD34
/- Automorphisms: the law. Printed by tools/gen146.py. -/
namespace Go.Proofs.Ytakapfgjdhliaaa
open Go.RowKit DM
set_option linter.unusedSimpArgs false
set_option linter.unusedVariables false
set_option maxRecDepth 100000
set_option maxHeartbeats 1000000
set_option maxHeartbeats 16000000

theorem can_iffR {N M : Nat} {b w b' w' : Nat → Nat} (hD : Des N b w) (hD' : Des M b' w') : eqDs N (canF N b w (N - 1)).1 (canF N b w (N - 1)).2 M (canF M b' w' (M - 1)).1 (canF M b' w' (M - 1)).2 = decide ((0 : Int) < ((isoR N b w M b' w').length : Int)) := by
  unfold isoR
  by_cases h : N = M
  · subst h
    rw [if_pos rfl, can_iff hD hD']
    by_cases c : 0 < (isoL N b w b' w' N).length
    · rw [decide_eq_true c, decide_eq_true (by omega)]
    · rw [decide_eq_false c, decide_eq_false (by omega)]
  · rw [if_neg h]
    unfold eqDs
    rw [decide_eq_false (by omega : ¬ (N : Int) = (M : Int))]
    rfl
theorem isos_A {n n' : Int} {b w b' w' : Nat → Nat} (h : bothB n b w n' b' w' = false) : isosR n b w n' b' w' = (t2 .ns (.i .i64 1), []) := by unfold isosR; rw [h]; rfl
theorem isos_B {N M : Nat} {b w b' w' : Nat → Nat} (h : bothB N b w M b' w' = true) : isosR N b w M b' w' = (t2 (.sl 0 0 (isoR N b w M b' w').length 16) (.i .i64 0), [.row 25 (isoR N b w M b' w').length 16 (plsF (isoR N b w M b' w'))]) := by unfold isosR; rw [h]; rfl

theorem law_Automorphisms (len : Nat) (g : Nat → Nat) (hg : ∀ j, g j < 256) (hl : len ≤ 9223372036854775807) : FnR Try.prog 4 [.sl 0 0 len 1] [.ro len 1 (byF g)] (.b true) := by
  have hbig := big_fn len (byF g) hl
  by_cases hb : 4096 < len
  · rw [decide_eq_true (by omega : (4096 : Int) < (len : Int))] at hbig
    refine FnS.into T tok Try.func4 (by rfl) rfl rfl rfl (by simp) ?_
    refine WP.rs T false tok (by rfl) (by exact byObl) ?_
    refine WP.seq ?_
    refine WP.rw ?_
    refine WPL.run T false 1 tok (by rfl) (by exact byObl) ?_
    refine WPL.callR [0] (hbig) (by rfl) (LeAll.cons (by rfl) (by first | with_reducible exact Root.Le.refl _ | with_reducible exact le_dead | (skip; done) | exact byLeq) (by exact byCon) (trivial)) (by exact byArgs) (by rfl) (by rfl) (by simp [Sc, sc_pl, sc_ds]) ?_
    refine WPL.fin T false tok (by rfl) (by exact byObl) ?_
    refine WP.cond (by rfl) (fun h => ?_) (fun h => WP.skip ?_)
    · refine WP.rs T false tok (by rfl) (by exact byObl) ?_
      exact WP.ret (Ends.val (by rfl) (by exact byObl) (by rfl) (by trivial))
    · cases h
  rw [decide_eq_false (by omega : ¬ (4096 : Int) < (len : Int))] at hbig
  have hl2 : len ≤ 4096 := by omega
  have hdI := drawTwo_I len g hg (by omega)
  have hdA := drawSome_A len g hg (by omega)
  have hdR := drawSome_R len g hg (by omega)
  refine FnS.into T tok Try.func4 (by rfl) rfl rfl rfl (by simp) ?_
  refine WP.rs T false tok (by rfl) (by exact byObl) ?_
  refine WP.seq ?_
  refine WP.rw ?_
  refine WPL.run T false 1 tok (by rfl) (by exact byObl) ?_
  refine WPL.callR [0] (hbig) (by rfl) (LeAll.cons (by rfl) (by first | with_reducible exact Root.Le.refl _ | with_reducible exact le_dead | (skip; done) | exact byLeq) (by exact byCon) (trivial)) (by exact byArgs) (by rfl) (by rfl) (by simp [Sc, sc_pl, sc_ds]) ?_
  refine WPL.fin T false tok (by rfl) (by exact byObl) ?_
  refine WP.cond (by rfl) (fun h => ?_) (fun h => WP.skip ?_)
  · cases h
  refine WP.rw ?_
  refine WPL.run T false 1 tok (by rfl) (by exact byObl) ?_
  refine WPL.callE [0] (hdI) (LeAll.cons (by rfl) (by first | with_reducible exact Root.Le.refl _ | with_reducible exact le_dead | (skip; done) | exact byLeq) (by exact byCon) (trivial)) (by rfl) (by rfl) (by exact byArgs) (by rfl) (by rfl) (by simp [Sc, sc_pl, sc_ds]) ?_
  rintro _ _ ⟨n, b, w, n', b', w', rfl, ⟨_, _, hb, hw⟩, ⟨_, _, hb', hw'⟩, rfl⟩
  refine ⟨⟨fun d hd => by cases hd; exact fun _ _ => trivial, trivial⟩, t2 (ds_ n b w) (ds_ n' b' w'), ren_t2 ⟨rfl, sc_ds _ _ _ _⟩ ⟨rfl, sc_ds _ _ _ _⟩, sc_t2 (sc_ds _ _ _ _) (sc_ds _ _ _ _), ?_⟩
  refine WPL.mem (by rfl) ?_
  refine WPL.fin T false tok (by rfl) (by exact byObl) ?_
  have hi1 := implIsos_fn n n' b w b' w' hb.lt hw.lt hb'.lt hw'.lt
  have hi2 := specIsos_fn n n' b w b' w' hb.lt hw.lt hb'.lt hw'.lt
  cases hbo : bothB n b w n' b' w'
  · rw [isos_A hbo] at hi1 hi2
    refine WP.rw ?_
    refine WPL.run T false 2 tok (by rfl) (by exact byObl) ?_
    refine WPL.callN [] (t2 .ns (.i .i64 1)) (hi1) (trivial) (by rfl) (by rfl) (by exact byArgs) (by rfl) (by rfl) (by simp [Sc, sc_pl, sc_ds]) (by exact byAllc) (ren_t2 ⟨rfl, trivial⟩ ⟨rfl, trivial⟩) (by exact bySc) rfl ?_
    refine WPL.fin T false tok (by rfl) (by exact byObl) ?_
    refine WP.seq ?_
    refine WP.rw ?_
    refine WPL.run T false 2 tok (by rfl) (by exact byObl) ?_
    refine WPL.callN [] (t2 .ns (.i .i64 1)) (hi2) (trivial) (by rfl) (by rfl) (by exact byArgs) (by rfl) (by rfl) (by simp [Sc, sc_pl, sc_ds]) (by exact byAllc) (ren_t2 ⟨rfl, trivial⟩ ⟨rfl, trivial⟩) (by exact bySc) rfl ?_
    refine WPL.fin T false tok (by rfl) (by exact byObl) ?_
    refine WP.rw ?_
    refine WPL.run T false 6 tok (by rfl) (by exact byObl) ?_
    refine WPL.call (places9_nil) (by rfl) (by rfl) (by rfl) (by simp [Sc, sc_pl, sc_ds, pl_ne, ds_ne]) ?_
    refine WPL.fin T false tok (by rfl) (by exact byObl) ?_
    refine WP.cond (by rfl) (fun h => ?_) (fun h => WP.skip ?_)
    · cases h
    refine WP.ghost (Ghost.cut (Nat.le_refl _) (tauOf [0]) [(0, .sl 0 0 len 1), (5, .ns), (6, .i .i64 1)] [.ro len 1 (byF g)] (Taken.of [0] (LeAll.cons (by rfl) (by first | with_reducible exact Root.Le.refl _ | with_reducible exact le_dead | (skip; done) | exact byLeq) (by exact byCon) (trivial)) rfl rfl) (by exact bySlots)) ?_
    refine WP.rw ?_
    refine WPL.run T false 1 tok (by rfl) (by exact byObl) ?_
    refine WPL.callE [0] (hdA) (LeAll.cons (by rfl) (by first | with_reducible exact Root.Le.refl _ | with_reducible exact le_dead | (skip; done) | exact byLeq) (by exact byCon) (trivial)) (by rfl) (by rfl) (by exact byArgs) (by rfl) (by rfl) (by simp [Sc, sc_pl, sc_ds]) ?_
    rintro _ _ ⟨nf, bf, wf, rfl, ⟨_, _, hbf, hwf⟩, rfl⟩
    refine ⟨⟨fun d hd => by cases hd; exact fun _ _ => trivial, trivial⟩, ds_ nf bf wf, ⟨rfl, sc_ds _ _ _ _⟩, sc_ds _ _ _ _, ?_⟩
    refine WPL.mem (by rfl) ?_
    refine WPL.fin T false tok (by rfl) (by exact byObl) ?_
    have ha1 := implAuts_fn nf bf wf hbf.lt hwf.lt
    have ha2 := specAuts_fn nf bf wf hbf.lt hwf.lt
    rw [isosR_same] at ha1 ha2
    cases hdf : desB nf bf wf
    · rw [hdf, cond_false] at ha1 ha2
      refine WP.rw ?_
      refine WPL.run T false 1 tok (by rfl) (by exact byObl) ?_
      refine WPL.callN [] (t2 .ns (.i .i64 1)) (ha1) (trivial) (by rfl) (by rfl) (by exact byArgs) (by rfl) (by rfl) (by simp [Sc, sc_pl, sc_ds]) (by exact byAllc) (ren_t2 ⟨rfl, trivial⟩ ⟨rfl, trivial⟩) (by exact bySc) rfl ?_
      refine WPL.fin T false tok (by rfl) (by exact byObl) ?_
      refine WP.seq ?_
      refine WP.rw ?_
      refine WPL.run T false 1 tok (by rfl) (by exact byObl) ?_
      refine WPL.callN [] (t2 .ns (.i .i64 1)) (ha2) (trivial) (by rfl) (by rfl) (by exact byArgs) (by rfl) (by rfl) (by simp [Sc, sc_pl, sc_ds]) (by exact byAllc) (ren_t2 ⟨rfl, trivial⟩ ⟨rfl, trivial⟩) (by exact bySc) rfl ?_
      refine WPL.fin T false tok (by rfl) (by exact byObl) ?_
      refine WP.rw ?_
      refine WPL.run T false 6 tok (by rfl) (by exact byObl) ?_
      refine WPL.call (places9_nil) (by rfl) (by rfl) (by rfl) (by simp [Sc, sc_pl, sc_ds, pl_ne, ds_ne]) ?_
      refine WPL.fin T false tok (by rfl) (by exact byObl) ?_
      refine WP.cond (by rfl) (fun h => ?_) (fun h => WP.skip ?_)
      · cases h
      refine WP.rw ?_
      refine WPL.run T false 1 tok (by rfl) (by exact byObl) ?_
      refine WPL.callE [0] (hdR) (LeAll.cons (by rfl) (by first | with_reducible exact Root.Le.refl _ | with_reducible exact le_dead | (skip; done) | exact byLeq) (by exact byCon) (trivial)) (by rfl) (by rfl) (by exact byArgs) (by rfl) (by rfl) (by simp [Sc, sc_pl, sc_ds]) ?_
      rintro _ _ ⟨ng, bg, wg, rfl, ⟨_, _, hbg, hwg⟩, rfl⟩
      refine ⟨⟨fun d hd => by cases hd; exact fun _ _ => trivial, trivial⟩, ds_ ng bg wg, ⟨rfl, sc_ds _ _ _ _⟩, sc_ds _ _ _ _, ?_⟩
      refine WPL.mem (by rfl) ?_
      refine WPL.fin T false tok (by rfl) (by exact byObl) ?_
      have hr1 := implReg_fn ng bg wg hbg.lt hwg.lt
      have hr2 := specReg_fn ng bg wg hbg.lt hwg.lt
      cases hdg : desB ng bg wg
      · rw [show regR ng bg wg = t2 (.b false) (.i .i64 1) by unfold regR; rw [hdg]; rfl] at hr1 hr2
        refine WP.rw ?_
        refine WPL.run T false 1 tok (by rfl) (by exact byObl) ?_
        refine WPL.call (hr1) (by rfl) (by rfl) (by rfl) (by simp [Sc, sc_pl, sc_ds, pl_ne, ds_ne]) ?_
        refine WPL.fin T false tok (by rfl) (by exact byObl) ?_
        refine WP.seq ?_
        refine WP.rw ?_
        refine WPL.run T false 1 tok (by rfl) (by exact byObl) ?_
        refine WPL.call (hr2) (by rfl) (by rfl) (by rfl) (by simp [Sc, sc_pl, sc_ds, pl_ne, ds_ne]) ?_
        refine WPL.fin T false tok (by rfl) (by exact byObl) ?_
        refine WP.rw ?_
        refine WPL.fin T false tok (by rfl) (by exact byObl) ?_
        refine WP.cond (by rfl) (fun h => ?_) (fun h => WP.skip ?_)
        · cases h
        refine WP.seq ?_
        refine WP.rw ?_
        refine WPL.run T false 3 tok (by rfl) (by exact byObl) ?_
        iterate 11 refine WPL.skipU (by rfl) (by rfl) ?_
        refine WPL.fin T false tok (by rfl) (by exact byObl) ?_
        refine WP.cond (by rfl) (fun h => ?_) (fun h => WP.skip ?_)
        · cases h
        refine WP.seq ?_
        refine WP.rs T false tok (by rfl) (by exact byObl) ?_
        refine WP.cond (by rfl) (fun h => ?_) (fun h => ?_)
        · cases h
        refine WP.skip ?_
        refine WP.seq ?_
        refine WP.rs T false tok (by rfl) (by exact byObl) ?_
        refine WP.cond (by rfl) (fun h => ?_) (fun h => WP.skip ?_)
        case refine_2 => cases h
        refine WP.rs T false tok (by rfl) (by exact byObl) ?_
        exact WP.ret (Ends.val (by rfl) (by exact byObl) (by rfl) (by trivial))
      · obtain ⟨G, rfl, hDg⟩ := des_of_B hdg
        obtain ⟨_, eG, _, hnb, hnw⟩ := des_np hdg hbg.z hwg.z
        obtain rfl := Int.ofNat_inj.1 eG
        have hg1 := implIsRegular_fn G bg wg hbg.lt hwg.lt hbg.z hwg.z
        have hyes : decide (((isoR G bg wg G bg wg).length : Int) = (G : Int)) = decide (((ordG G [bg, wg] : Nat) : Int) = (G : Int)) := by
          have := regular_iff hDg hnb hnw
          unfold isoR
          rw [if_pos rfl]
          by_cases c : (isoL G bg wg bg wg G).length = G
          · rw [decide_eq_true (by omega), decide_eq_true (by have := this.1 c; omega)]
          · rw [decide_eq_false (by omega), decide_eq_false (by intro e; exact c (this.2 (by omega)))]
        rw [show regR G bg wg = t2 (.b (decide (((isoR G bg wg G bg wg).length : Int) = (G : Int)))) (.i .i64 0) by unfold regR; rw [hdg]; rfl, hyes] at hr1 hr2
        rw [show irR G bg wg = t2 (.b (decide (((ordG G [bg, wg] : Nat) : Int) = (G : Int)))) (.i .i64 0) by unfold irR; rw [hdg]; rfl] at hg1
        generalize decide (((ordG G [bg, wg] : Nat) : Int) = (G : Int)) = yes at *
        refine WP.rw ?_
        refine WPL.run T false 1 tok (by rfl) (by exact byObl) ?_
        refine WPL.call (hr1) (by rfl) (by rfl) (by rfl) (by simp [Sc, sc_pl, sc_ds, pl_ne, ds_ne]) ?_
        refine WPL.fin T false tok (by rfl) (by exact byObl) ?_
        refine WP.seq ?_
        refine WP.rw ?_
        refine WPL.run T false 1 tok (by rfl) (by exact byObl) ?_
        refine WPL.call (hr2) (by rfl) (by rfl) (by rfl) (by simp [Sc, sc_pl, sc_ds, pl_ne, ds_ne]) ?_
        refine WPL.fin T false tok (by rfl) (by exact byObl) ?_
        refine WP.rw ?_
        refine WPL.run T false 7 tok (by rfl) (by exact byObl) ?_
        rw [beq_self_eq_true yes]
        refine WPL.fin T false tok (by rfl) (by exact byObl) ?_
        refine WP.cond (by rfl) (fun h => ?_) (fun h => WP.skip ?_)
        · cases h
        refine WP.seq ?_
        refine WP.rw ?_
        refine WPL.run T false 3 tok (by rfl) (by exact byObl) ?_
        iterate 11 refine WPL.skipU (by rfl) (by rfl) ?_
        refine WPL.fin T false tok (by rfl) (by exact byObl) ?_
        refine WP.cond (by rfl) (fun h => ?_) (fun h => WP.skip ?_)
        · cases h
        refine WP.seq ?_
        refine WP.rs T false tok (by rfl) (by exact byObl) ?_
        refine WP.cond (by rfl) (fun h => ?_) (fun h => ?_)
        case refine_2 => cases h
        refine WP.rw ?_
        refine WPL.run T false 1 tok (by rfl) (by exact byObl) ?_
        refine WPL.call (hg1) (by rfl) (by rfl) (by rfl) (by simp [Sc, sc_pl, sc_ds, pl_ne, ds_ne]) ?_
        refine WPL.fin T false tok (by rfl) (by exact byObl) ?_
        refine WP.rw ?_
        refine WPL.run T false 6 tok (by rfl) (by exact byObl) ?_
        rw [beq_self_eq_true yes]
        refine WPL.fin T false tok (by rfl) (by exact byObl) ?_
        refine WP.cond (by rfl) (fun h => ?_) (fun h => WP.skip ?_)
        · cases h
        refine WP.seq ?_
        refine WP.rs T false tok (by rfl) (by exact byObl) ?_
        refine WP.cond (by rfl) (fun h => ?_) (fun h => WP.skip ?_)
        case refine_2 => cases h
        refine WP.rs T false tok (by rfl) (by exact byObl) ?_
        exact WP.ret (Ends.val (by rfl) (by exact byObl) (by rfl) (by trivial))
    · obtain ⟨F, rfl, hDf⟩ := des_of_B hdf
      rw [hdf, cond_true, Int.toNat_natCast] at ha1 ha2
      have hFl := isoR_len (M := F) hDf.le bf wf bf wf
      have hFd : (isoR F bf wf F bf wf).length ∣ F := by unfold isoR; rw [if_pos rfl]; exact auts_dvd hDf
      have hFp : 0 < (isoR F bf wf F bf wf).length := by unfold isoR; rw [if_pos rfl]; exact auts_pos hDf
      have hF16 := hDf.le
      have hf9 := places9_fn (isoR F bf wf F bf wf).length (fun j => (isoR F bf wf F bf wf).getD j fun _ => 0) (by omega)
      generalize isoR F bf wf F bf wf = LF at *
      refine WP.rw ?_
      refine WPL.run T false 1 tok (by rfl) (by exact byObl) ?_
      refine WPL.callN [] (t2 (.sl 2 0 LF.length 16) (.i .i64 0)) (ha1) (trivial) (by rfl) (by rfl) (by exact byArgs) (by rfl) (by rfl) (by simp [Sc, sc_pl, sc_ds]) (by exact byAllc) (ren_t2 rfl ⟨rfl, trivial⟩) (by exact bySc) rfl ?_
      refine WPL.fin T false tok (by rfl) (by exact byObl) ?_
      refine WP.seq ?_
      refine WP.rw ?_
      refine WPL.run T false 1 tok (by rfl) (by exact byObl) ?_
      refine WPL.callN [] (t2 (.sl 3 0 LF.length 16) (.i .i64 0)) (ha2) (trivial) (by rfl) (by rfl) (by exact byArgs) (by rfl) (by rfl) (by simp [Sc, sc_pl, sc_ds]) (by exact byAllc) (ren_t2 rfl ⟨rfl, trivial⟩) (by exact bySc) rfl ?_
      refine WPL.fin T false tok (by rfl) (by exact byObl) ?_
      refine WP.rw ?_
      refine WPL.run T false 6 tok (by rfl) (by exact byObl) ?_
      refine WPL.callR [2, 3] (hf9) (by rfl) (LeAll.cons (by rfl) (by first | with_reducible exact Root.Le.refl _ | with_reducible exact le_dead | (skip; done) | exact byLeq) (by exact byCon) (LeAll.cons (by rfl) (by first | with_reducible exact Root.Le.refl _ | with_reducible exact le_dead | (skip; done) | exact byLeq) (by exact byCon) (trivial))) (by exact byArgs) (by rfl) (by rfl) (by simp [Sc, sc_pl, sc_ds]) ?_
      refine WPL.fin T false tok (by rfl) (by exact byObl) ?_
      refine WP.cond (by rfl) (fun h => ?_) (fun h => WP.skip ?_)
      · cases h
      refine WP.rw ?_
      refine WPL.run T false 1 tok (by rfl) (by exact byObl) ?_
      refine WPL.callE [0] (hdR) (LeAll.cons (by rfl) (by first | with_reducible exact Root.Le.refl _ | with_reducible exact le_dead | (skip; done) | exact byLeq) (by exact byCon) (trivial)) (by rfl) (by rfl) (by exact byArgs) (by rfl) (by rfl) (by simp [Sc, sc_pl, sc_ds]) ?_
      rintro _ _ ⟨ng, bg, wg, rfl, ⟨_, _, hbg, hwg⟩, rfl⟩
      refine ⟨⟨fun d hd => by cases hd; exact fun _ _ => trivial, trivial⟩, ds_ ng bg wg, ⟨rfl, sc_ds _ _ _ _⟩, sc_ds _ _ _ _, ?_⟩
      refine WPL.mem (by rfl) ?_
      refine WPL.fin T false tok (by rfl) (by exact byObl) ?_
      have hr1 := implReg_fn ng bg wg hbg.lt hwg.lt
      have hr2 := specReg_fn ng bg wg hbg.lt hwg.lt
      cases hdg : desB ng bg wg
      · rw [show regR ng bg wg = t2 (.b false) (.i .i64 1) by unfold regR; rw [hdg]; rfl] at hr1 hr2
        refine WP.rw ?_
        refine WPL.run T false 1 tok (by rfl) (by exact byObl) ?_
        refine WPL.call (hr1) (by rfl) (by rfl) (by rfl) (by simp [Sc, sc_pl, sc_ds, pl_ne, ds_ne]) ?_
        refine WPL.fin T false tok (by rfl) (by exact byObl) ?_
        refine WP.seq ?_
        refine WP.rw ?_
        refine WPL.run T false 1 tok (by rfl) (by exact byObl) ?_
        refine WPL.call (hr2) (by rfl) (by rfl) (by rfl) (by simp [Sc, sc_pl, sc_ds, pl_ne, ds_ne]) ?_
        refine WPL.fin T false tok (by rfl) (by exact byObl) ?_
        refine WP.rw ?_
        refine WPL.fin T false tok (by rfl) (by exact byObl) ?_
        refine WP.cond (by rfl) (fun h => ?_) (fun h => WP.skip ?_)
        · cases h
        refine WP.seq ?_
        refine WP.rw ?_
        refine WPL.run T false 6 tok (by rfl) (by exact byObl) ?_
        rw [decide_eq_false (by omega : ¬ ((LF.length : Nat) : Int) < 1)]
        refine WPL.run T false 7 tok (by rfl) (by exact byObl) ?_
        rw [decide_eq_true (Int.tmod_eq_zero_of_dvd (Int.natCast_dvd_natCast.2 hFd))]
        refine WPL.fin T false tok (by rfl) (by exact byObl) ?_
        refine WP.cond (by rfl) (fun h => ?_) (fun h => WP.skip ?_)
        · cases h
        refine WP.seq ?_
        refine WP.rs T false tok (by rfl) (by exact byObl) ?_
        refine WP.cond (by rfl) (fun h => ?_) (fun h => ?_)
        · cases h
        refine WP.skip ?_
        refine WP.seq ?_
        refine WP.rs T false tok (by rfl) (by exact byObl) ?_
        refine WP.cond (by rfl) (fun h => ?_) (fun h => WP.skip ?_)
        case refine_2 => cases h
        refine WP.rs T false tok (by rfl) (by exact byObl) ?_
        exact WP.ret (Ends.val (by rfl) (by exact byObl) (by rfl) (by trivial))
      · obtain ⟨G, rfl, hDg⟩ := des_of_B hdg
        obtain ⟨_, eG, _, hnb, hnw⟩ := des_np hdg hbg.z hwg.z
        obtain rfl := Int.ofNat_inj.1 eG
        have hg1 := implIsRegular_fn G bg wg hbg.lt hwg.lt hbg.z hwg.z
        have hyes : decide (((isoR G bg wg G bg wg).length : Int) = (G : Int)) = decide (((ordG G [bg, wg] : Nat) : Int) = (G : Int)) := by
          have := regular_iff hDg hnb hnw
          unfold isoR
          rw [if_pos rfl]
          by_cases c : (isoL G bg wg bg wg G).length = G
          · rw [decide_eq_true (by omega), decide_eq_true (by have := this.1 c; omega)]
          · rw [decide_eq_false (by omega), decide_eq_false (by intro e; exact c (this.2 (by omega)))]
        rw [show regR G bg wg = t2 (.b (decide (((isoR G bg wg G bg wg).length : Int) = (G : Int)))) (.i .i64 0) by unfold regR; rw [hdg]; rfl, hyes] at hr1 hr2
        rw [show irR G bg wg = t2 (.b (decide (((ordG G [bg, wg] : Nat) : Int) = (G : Int)))) (.i .i64 0) by unfold irR; rw [hdg]; rfl] at hg1
        generalize decide (((ordG G [bg, wg] : Nat) : Int) = (G : Int)) = yes at *
        refine WP.rw ?_
        refine WPL.run T false 1 tok (by rfl) (by exact byObl) ?_
        refine WPL.call (hr1) (by rfl) (by rfl) (by rfl) (by simp [Sc, sc_pl, sc_ds, pl_ne, ds_ne]) ?_
        refine WPL.fin T false tok (by rfl) (by exact byObl) ?_
        refine WP.seq ?_
        refine WP.rw ?_
        refine WPL.run T false 1 tok (by rfl) (by exact byObl) ?_
        refine WPL.call (hr2) (by rfl) (by rfl) (by rfl) (by simp [Sc, sc_pl, sc_ds, pl_ne, ds_ne]) ?_
        refine WPL.fin T false tok (by rfl) (by exact byObl) ?_
        refine WP.rw ?_
        refine WPL.run T false 7 tok (by rfl) (by exact byObl) ?_
        rw [beq_self_eq_true yes]
        refine WPL.fin T false tok (by rfl) (by exact byObl) ?_
        refine WP.cond (by rfl) (fun h => ?_) (fun h => WP.skip ?_)
        · cases h
        refine WP.seq ?_
        refine WP.rw ?_
        refine WPL.run T false 6 tok (by rfl) (by exact byObl) ?_
        rw [decide_eq_false (by omega : ¬ ((LF.length : Nat) : Int) < 1)]
        refine WPL.run T false 7 tok (by rfl) (by exact byObl) ?_
        rw [decide_eq_true (Int.tmod_eq_zero_of_dvd (Int.natCast_dvd_natCast.2 hFd))]
        refine WPL.fin T false tok (by rfl) (by exact byObl) ?_
        refine WP.cond (by rfl) (fun h => ?_) (fun h => WP.skip ?_)
        · cases h
        refine WP.seq ?_
        refine WP.rs T false tok (by rfl) (by exact byObl) ?_
        refine WP.cond (by rfl) (fun h => ?_) (fun h => ?_)
        case refine_2 => cases h
        refine WP.rw ?_
        refine WPL.run T false 1 tok (by rfl) (by exact byObl) ?_
        refine WPL.call (hg1) (by rfl) (by rfl) (by rfl) (by simp [Sc, sc_pl, sc_ds, pl_ne, ds_ne]) ?_
        refine WPL.fin T false tok (by rfl) (by exact byObl) ?_
        refine WP.rw ?_
        refine WPL.run T false 6 tok (by rfl) (by exact byObl) ?_
        rw [beq_self_eq_true yes]
        refine WPL.fin T false tok (by rfl) (by exact byObl) ?_
        refine WP.cond (by rfl) (fun h => ?_) (fun h => WP.skip ?_)
        · cases h
        refine WP.seq ?_
        refine WP.rs T false tok (by rfl) (by exact byObl) ?_
        refine WP.cond (by rfl) (fun h => ?_) (fun h => WP.skip ?_)
        case refine_2 => cases h
        refine WP.rs T false tok (by rfl) (by exact byObl) ?_
        exact WP.ret (Ends.val (by rfl) (by exact byObl) (by rfl) (by trivial))
  · obtain ⟨hd1, hd2⟩ : desB n b w = true ∧ desB n' b' w' = true := by unfold bothB at hbo; simpa using hbo
    obtain ⟨N, rfl, hD⟩ := des_of_B hd1
    obtain ⟨M, rfl, hD'⟩ := des_of_B hd2
    rw [isos_B hbo] at hi1 hi2
    have hLl := isoR_len (M := M) hD.le b w b' w'
    have hcan := can_iffR hD hD'
    have hlist : ∀ i, i < (isoR N b w M b' w').length → FnP Try.prog 40 [ds_ N b w, pl ((isoR N b w M b' w').getD i fun _ => 0)] (t2 (ds_ M b' w') (.i .i64 0)) := fun i hi => by
      unfold isoR at hi ⊢
      by_cases h : N = M
      · subst h
        rw [if_pos rfl] at hi ⊢
        obtain ⟨y, hy, hB, e⟩ := isoL_get hD hD' hi
        obtain ⟨p1, p2, p3, p4⟩ := iso_of hD hD' hy hB
        have h1 := implRename_fn N b w (isoP N b w b' w' y) hb.lt hw.lt (fun i => by
          by_cases hi : i < N
          · have := p1.lt i hi; have := hD.le; omega
          · rw [p4 i (by omega)]; omega)
        obtain ⟨r1, r2⟩ := iso_ren hD hD' (des_z hd2 hb'.z) (des_z2 hd2 hw'.z) p1 p3
        rw [show renR N b w (isoP N b w b' w' y) = t2 (ds_ N b' w') (.i .i64 0) by unfold renR; rw [hd1, perm_B hD p1 p4, Int.toNat_natCast, r1, r2]; rfl] at h1
        rw [e]; exact h1
      · rw [if_neg h] at hi; exact absurd hi (Nat.not_lt_zero _)
    have hp9 := places9_fn (isoR N b w M b' w').length (fun j => (isoR N b w M b' w').getD j fun _ => 0) (by omega)
    have hc1 := implCan_fn N b w hb.lt hw.lt
    have hc2 := implCan_fn M b' w' hb'.lt hw'.lt
    rw [show canR N b w = t2 (ds_ N (canF N b w (N - 1)).1 (canF N b w (N - 1)).2) (.i .i64 0) by unfold canR; rw [hd1]; rfl] at hc1
    rw [show canR M b' w' = t2 (ds_ M (canF M b' w' (M - 1)).1 (canF M b' w' (M - 1)).2) (.i .i64 0) by unfold canR; rw [hd2]; rfl] at hc2
    generalize canF N b w (N - 1) = c1 at *
    generalize canF M b' w' (M - 1) = c2 at *
    generalize isoR N b w M b' w' = L at *
    refine WP.rw ?_
    refine WPL.run T false 2 tok (by rfl) (by exact byObl) ?_
    refine WPL.callN [] (t2 (.sl 3 0 L.length 16) (.i .i64 0)) (hi1) (trivial) (by rfl) (by rfl) (by exact byArgs) (by rfl) (by rfl) (by simp [Sc, sc_pl, sc_ds]) (by exact byAllc) (ren_t2 rfl ⟨rfl, trivial⟩) (by exact bySc) rfl ?_
    refine WPL.fin T false tok (by rfl) (by exact byObl) ?_
    refine WP.seq ?_
    refine WP.rw ?_
    refine WPL.run T false 2 tok (by rfl) (by exact byObl) ?_
    refine WPL.callN [] (t2 (.sl 4 0 L.length 16) (.i .i64 0)) (hi2) (trivial) (by rfl) (by rfl) (by exact byArgs) (by rfl) (by rfl) (by simp [Sc, sc_pl, sc_ds]) (by exact byAllc) (ren_t2 rfl ⟨rfl, trivial⟩) (by exact bySc) rfl ?_
    refine WPL.fin T false tok (by rfl) (by exact byObl) ?_
    refine WP.rw ?_
    refine WPL.run T false 6 tok (by rfl) (by exact byObl) ?_
    refine WPL.callR [3, 4] (hp9) (by rfl) (LeAll.cons (by rfl) (by first | with_reducible exact Root.Le.refl _ | with_reducible exact le_dead | (skip; done) | exact byLeq) (by exact byCon) (LeAll.cons (by rfl) (by first | with_reducible exact Root.Le.refl _ | with_reducible exact le_dead | (skip; done) | exact byLeq) (by exact byCon) (trivial))) (by exact byArgs) (by rfl) (by rfl) (by simp [Sc, sc_pl, sc_ds]) ?_
    refine WPL.fin T false tok (by rfl) (by exact byObl) ?_
    refine WP.cond (by rfl) (fun h => ?_) (fun h => WP.skip ?_)
    · cases h
    refine WP.ghost (Ghost.cut (Nat.le_refl _) (tauOf [0, 1, 2, 3]) [(0, .sl 0 0 len 1), (3, .p 1 [] 0), (4, .p 2 [] 0), (5, .sl 3 0 L.length 16), (6, .i .i64 0)] [.ro len 1 (byF g), .var (ds_ N b w), .var (ds_ M b' w'), .row 25 L.length 16 (plsF L)] (Taken.of [0, 1, 2, 3] (LeAll.cons (by rfl) (by first | with_reducible exact Root.Le.refl _ | with_reducible exact le_dead | (skip; done) | exact byLeq) (by exact byCon) (LeAll.cons (by rfl) (by first | with_reducible exact Root.Le.refl _ | with_reducible exact le_dead | (skip; done) | exact byLeq) (by exact byCon) (LeAll.cons (by rfl) (by first | with_reducible exact Root.Le.refl _ | with_reducible exact le_dead | (skip; done) | exact byLeq) (by exact byCon) (LeAll.cons (by rfl) (by first | with_reducible exact Root.Le.refl _ | with_reducible exact le_dead | (skip; done) | exact byLeq) (by exact byCon) (trivial))))) rfl rfl) (by exact bySlots)) ?_
    refine WP.share 9 ⟨lst [(3, .p 1 [] 0), (4, .p 2 [] 0), (5, .sl 3 0 L.length 16)], [.ro len 1 (byF g), .var (ds_ N b w), .var (ds_ M b' w'), .row 25 L.length 16 (plsF L)]⟩ (by rfl) ?_ (fun hr => ?_)
    · refine WP.seq ?_
      refine WP.rs T false tok (by rfl) (by exact byObl) ?_
      refine WP.block ?_
      refine WP.loopH (⟨fun i : Nat => i ≤ L.length, fun i => [(3, .p 1 [] 0), (4, .p 2 [] 0), (5, .sl 3 0 L.length 16), (21, .i .i64 (i : Int))], fun i => [.ro len 1 (byF g), .var (ds_ N b w), .var (ds_ M b' w'), .row 25 L.length 16 (plsF L)], fun i => L.length - i⟩) (0) (Nat.zero_le _) (Ghost.cut (Nat.le_refl _) (tauOf [0, 1, 2, 3]) _ _ (Taken.of [0, 1, 2, 3] (LeAll.cons (by rfl) (by first | with_reducible exact Root.Le.refl _ | with_reducible exact le_dead | (skip; done) | exact byLeq) (by exact byCon) (LeAll.cons (by rfl) (by first | with_reducible exact Root.Le.refl _ | with_reducible exact le_dead | (skip; done) | exact byLeq) (by exact byCon) (LeAll.cons (by rfl) (by first | with_reducible exact Root.Le.refl _ | with_reducible exact le_dead | (skip; done) | exact byLeq) (by exact byCon) (LeAll.cons (by rfl) (by first | with_reducible exact Root.Le.refl _ | with_reducible exact le_dead | (skip; done) | exact byLeq) (by exact byCon) (trivial))))) rfl rfl) (by exact bySlots)) ?_
      intro i hi
      dsimp only at hi
      dsimp only [Hd.at]
      refine WP.seq ?_
      refine WP.rs T false tok (by rfl) (by exact byObl) ?_
      refine WP.cond (by rfl) (fun hc => WP.skip ?_) (fun hc => WP.exit ?_)
      · have hi : i < L.length := by have := of_decide_eq_true hc; omega
        clear hc
        have hren := hlist i hi
        refine WP.seq (WP.block ?_)
        refine WP.seq ?_
        refine WP.dt (T := T) 11 1 ?_
        refine HW.run false 5 tok (by rfl) (by exact byObl) ?_
        refine HW.call [] (hren) (by rfl) (by rfl) trivial (by exact byArgs) (by rfl) (by simp [Sc, sc_pl, sc_ds]) (sc_t2 (sc_ds _ _ _ _) trivial) ?_
        refine HW.run false 5 tok (by rfl) (by exact ⟨sc_t2 (sc_ds _ _ _ _) trivial, sc_ds _ _ _ _, sc_ds _ _ _ _⟩) ?_
        refine HW.fin tok (by kernel_rfl) 11 1 (by rfl) (by kernel_rfl) (by kernel_rfl) (by kernel_rfl) (by rfl) (by rfl) rfl rfl ?_
        refine WPL.fin T false tok (by rfl) (by exact byObl) ?_
        refine WP.rw ?_
        refine WPL.run T false 5 tok (by rfl) (by exact byObl) ?_
        refine WPL.op (by rfl) (by rfl) (QOK.op (ok_eq tok rfl (eqd_same _ _ _))) ?_
        refine WPL.fin T false tok (by rfl) (by exact byObl) ?_
        refine WP.cond (by rfl) (fun h => ?_) (fun h => WP.skip ?_)
        · cases h
        · refine WP.run T false tok (by rfl) (by exact byObl) ?_
          refine Again.next (i + 1) (Ghost.cut (Nat.le_refl _) (tauOf [0, 1, 2, 3]) _ _ (Taken.of [0, 1, 2, 3] (LeAll.cons (by rfl) (by first | with_reducible exact Root.Le.refl _ | with_reducible exact le_dead | (skip; done) | exact byLeq) (by exact byCon) (LeAll.cons (by rfl) (by first | with_reducible exact Root.Le.refl _ | with_reducible exact le_dead | (skip; done) | exact byLeq) (by exact byCon) (LeAll.cons (by rfl) (by first | with_reducible exact Root.Le.refl _ | with_reducible exact le_dead | (skip; done) | exact byLeq) (by exact byCon) (LeAll.cons (by rfl) (by first | with_reducible exact Root.Le.refl _ | with_reducible exact le_dead | (skip; done) | exact byLeq) (by exact byCon) (trivial))))) rfl rfl) (by exact bySlots)) (hi) (by dsimp only; omega)
      clear hc hi
      refine WP.rw ?_
      refine WPL.run T false 1 tok (by rfl) (by exact byObl) ?_
      refine WPL.call (hc1) (by rfl) (by rfl) (by rfl) (by simp [Sc, sc_pl, sc_ds, pl_ne, ds_ne]) ?_
      refine WPL.fin T false tok (by rfl) (by exact byObl) ?_
      refine WP.rw ?_
      refine WPL.run T false 1 tok (by rfl) (by exact byObl) ?_
      refine WPL.call (hc2) (by rfl) (by rfl) (by rfl) (by simp [Sc, sc_pl, sc_ds, pl_ne, ds_ne]) ?_
      refine WPL.fin T false tok (by rfl) (by exact byObl) ?_
      refine WP.rw ?_
      refine WPL.run T false 12 tok (by rfl) (by exact byObl) ?_
      have hE2 : eqE T .eql 48 (ds_ N c1.1 c1.2) (ds_ M c2.1 c2.2) = some (decide ((0 : Int) < (L.length : Int))) := by rw [eq_ds_eql, hcan]
      refine WPL.op (by rfl) (by rfl) (QOK.op (ok_eq tok rfl hE2)) ?_
      refine WPL.run T false 1 tok (by rfl) (by exact byObl) ?_
      rw [beq_self_eq_true]
      refine WPL.fin T false tok (by rfl) (by exact byObl) ?_
      exact WP.ret (Ends.val (by rfl) (by exact byObl) (by rfl) (by trivial))
    · refine WP.rw ?_
      refine WPL.run T false 1 tok (by rfl) (by exact byObl) ?_
      refine WPL.callE [0] (hdA) (LeAll.cons (by rfl) (by first | with_reducible exact Root.Le.refl _ | with_reducible exact le_dead | (skip; done) | exact byLeq) (by exact byCon) (trivial)) (by rfl) (by rfl) (by exact byArgs) (by rfl) (by rfl) (by simp [Sc, sc_pl, sc_ds]) ?_
      rintro _ _ ⟨nf, bf, wf, rfl, ⟨_, _, hbf, hwf⟩, rfl⟩
      refine ⟨⟨fun d hd => by cases hd; exact fun _ _ => trivial, trivial⟩, ds_ nf bf wf, ⟨rfl, sc_ds _ _ _ _⟩, sc_ds _ _ _ _, ?_⟩
      refine WPL.mem (by rfl) ?_
      refine WPL.fin T false tok (by rfl) (by exact byObl) ?_
      have ha1 := implAuts_fn nf bf wf hbf.lt hwf.lt
      have ha2 := specAuts_fn nf bf wf hbf.lt hwf.lt
      rw [isosR_same] at ha1 ha2
      cases hdf : desB nf bf wf
      · rw [hdf, cond_false] at ha1 ha2
        refine WP.rw ?_
        refine WPL.run T false 1 tok (by rfl) (by exact byObl) ?_
        refine WPL.callN [] (t2 .ns (.i .i64 1)) (ha1) (trivial) (by rfl) (by rfl) (by exact byArgs) (by rfl) (by rfl) (by simp [Sc, sc_pl, sc_ds]) (by exact byAllc) (ren_t2 ⟨rfl, trivial⟩ ⟨rfl, trivial⟩) (by exact bySc) rfl ?_
        refine WPL.fin T false tok (by rfl) (by exact byObl) ?_
        refine WP.seq ?_
        refine WP.rw ?_
        refine WPL.run T false 1 tok (by rfl) (by exact byObl) ?_
        refine WPL.callN [] (t2 .ns (.i .i64 1)) (ha2) (trivial) (by rfl) (by rfl) (by exact byArgs) (by rfl) (by rfl) (by simp [Sc, sc_pl, sc_ds]) (by exact byAllc) (ren_t2 ⟨rfl, trivial⟩ ⟨rfl, trivial⟩) (by exact bySc) rfl ?_
        refine WPL.fin T false tok (by rfl) (by exact byObl) ?_
        refine WP.rw ?_
        refine WPL.run T false 6 tok (by rfl) (by exact byObl) ?_
        refine WPL.call (places9_nil) (by rfl) (by rfl) (by rfl) (by simp [Sc, sc_pl, sc_ds, pl_ne, ds_ne]) ?_
        refine WPL.fin T false tok (by rfl) (by exact byObl) ?_
        refine WP.cond (by rfl) (fun h => ?_) (fun h => WP.skip ?_)
        · cases h
        refine WP.rw ?_
        refine WPL.run T false 1 tok (by rfl) (by exact byObl) ?_
        refine WPL.callE [0] (hdR) (LeAll.cons (by rfl) (by first | with_reducible exact Root.Le.refl _ | with_reducible exact le_dead | (skip; done) | exact byLeq) (by exact byCon) (trivial)) (by rfl) (by rfl) (by exact byArgs) (by rfl) (by rfl) (by simp [Sc, sc_pl, sc_ds]) ?_
        rintro _ _ ⟨ng, bg, wg, rfl, ⟨_, _, hbg, hwg⟩, rfl⟩
        refine ⟨⟨fun d hd => by cases hd; exact fun _ _ => trivial, trivial⟩, ds_ ng bg wg, ⟨rfl, sc_ds _ _ _ _⟩, sc_ds _ _ _ _, ?_⟩
        refine WPL.mem (by rfl) ?_
        refine WPL.fin T false tok (by rfl) (by exact byObl) ?_
        have hr1 := implReg_fn ng bg wg hbg.lt hwg.lt
        have hr2 := specReg_fn ng bg wg hbg.lt hwg.lt
        cases hdg : desB ng bg wg
        · rw [show regR ng bg wg = t2 (.b false) (.i .i64 1) by unfold regR; rw [hdg]; rfl] at hr1 hr2
          refine WP.rw ?_
          refine WPL.run T false 1 tok (by rfl) (by exact byObl) ?_
          refine WPL.call (hr1) (by rfl) (by rfl) (by rfl) (by simp [Sc, sc_pl, sc_ds, pl_ne, ds_ne]) ?_
          refine WPL.fin T false tok (by rfl) (by exact byObl) ?_
          refine WP.seq ?_
          refine WP.rw ?_
          refine WPL.run T false 1 tok (by rfl) (by exact byObl) ?_
          refine WPL.call (hr2) (by rfl) (by rfl) (by rfl) (by simp [Sc, sc_pl, sc_ds, pl_ne, ds_ne]) ?_
          refine WPL.fin T false tok (by rfl) (by exact byObl) ?_
          refine WP.rw ?_
          refine WPL.fin T false tok (by rfl) (by exact byObl) ?_
          refine WP.cond (by rfl) (fun h => ?_) (fun h => WP.skip ?_)
          · cases h
          refine WP.seq ?_
          refine WP.rw ?_
          refine WPL.run T false 3 tok (by rfl) (by exact byObl) ?_
          iterate 11 refine WPL.skipU (by rfl) (by rfl) ?_
          refine WPL.fin T false tok (by rfl) (by exact byObl) ?_
          refine WP.cond (by rfl) (fun h => ?_) (fun h => WP.skip ?_)
          · cases h
          refine WP.seq ?_
          refine WP.rs T false tok (by rfl) (by exact byObl) ?_
          refine WP.cond (by rfl) (fun h => ?_) (fun h => ?_)
          · cases h
          refine WP.skip ?_
          refine WP.seq ?_
          refine WP.rs T false tok (by rfl) (by exact byObl) ?_
          refine WP.cond (by rfl) (fun h => ?_) (fun h => WP.skip ?_)
          · cases h
          refine WP.ghost (Ghost.cut (Nat.le_refl _) (tauOf [0, 1, 2, 3]) [(3, .p 1 [] 0), (4, .p 2 [] 0), (5, .sl 3 0 L.length 16)] [.ro len 1 (byF g), .var (ds_ N b w), .var (ds_ M b' w'), .row 25 L.length 16 (plsF L)] (Taken.of [0, 1, 2, 3] (LeAll.cons (by rfl) (by first | with_reducible exact Root.Le.refl _ | with_reducible exact le_dead | (skip; done) | exact byLeq) (by exact byCon) (LeAll.cons (by rfl) (by first | with_reducible exact Root.Le.refl _ | with_reducible exact le_dead | (skip; done) | exact byLeq) (by exact byCon) (LeAll.cons (by rfl) (by first | with_reducible exact Root.Le.refl _ | with_reducible exact le_dead | (skip; done) | exact byLeq) (by exact byCon) (LeAll.cons (by rfl) (by first | with_reducible exact Root.Le.refl _ | with_reducible exact le_dead | (skip; done) | exact byLeq) (by exact byCon) (trivial))))) rfl rfl) (by exact bySlots)) ?_
          exact hr
        · obtain ⟨G, rfl, hDg⟩ := des_of_B hdg
          obtain ⟨_, eG, _, hnb, hnw⟩ := des_np hdg hbg.z hwg.z
          obtain rfl := Int.ofNat_inj.1 eG
          have hg1 := implIsRegular_fn G bg wg hbg.lt hwg.lt hbg.z hwg.z
          have hyes : decide (((isoR G bg wg G bg wg).length : Int) = (G : Int)) = decide (((ordG G [bg, wg] : Nat) : Int) = (G : Int)) := by
            have := regular_iff hDg hnb hnw
            unfold isoR
            rw [if_pos rfl]
            by_cases c : (isoL G bg wg bg wg G).length = G
            · rw [decide_eq_true (by omega), decide_eq_true (by have := this.1 c; omega)]
            · rw [decide_eq_false (by omega), decide_eq_false (by intro e; exact c (this.2 (by omega)))]
          rw [show regR G bg wg = t2 (.b (decide (((isoR G bg wg G bg wg).length : Int) = (G : Int)))) (.i .i64 0) by unfold regR; rw [hdg]; rfl, hyes] at hr1 hr2
          rw [show irR G bg wg = t2 (.b (decide (((ordG G [bg, wg] : Nat) : Int) = (G : Int)))) (.i .i64 0) by unfold irR; rw [hdg]; rfl] at hg1
          generalize decide (((ordG G [bg, wg] : Nat) : Int) = (G : Int)) = yes at *
          refine WP.rw ?_
          refine WPL.run T false 1 tok (by rfl) (by exact byObl) ?_
          refine WPL.call (hr1) (by rfl) (by rfl) (by rfl) (by simp [Sc, sc_pl, sc_ds, pl_ne, ds_ne]) ?_
          refine WPL.fin T false tok (by rfl) (by exact byObl) ?_
          refine WP.seq ?_
          refine WP.rw ?_
          refine WPL.run T false 1 tok (by rfl) (by exact byObl) ?_
          refine WPL.call (hr2) (by rfl) (by rfl) (by rfl) (by simp [Sc, sc_pl, sc_ds, pl_ne, ds_ne]) ?_
          refine WPL.fin T false tok (by rfl) (by exact byObl) ?_
          refine WP.rw ?_
          refine WPL.run T false 7 tok (by rfl) (by exact byObl) ?_
          rw [beq_self_eq_true yes]
          refine WPL.fin T false tok (by rfl) (by exact byObl) ?_
          refine WP.cond (by rfl) (fun h => ?_) (fun h => WP.skip ?_)
          · cases h
          refine WP.seq ?_
          refine WP.rw ?_
          refine WPL.run T false 3 tok (by rfl) (by exact byObl) ?_
          iterate 11 refine WPL.skipU (by rfl) (by rfl) ?_
          refine WPL.fin T false tok (by rfl) (by exact byObl) ?_
          refine WP.cond (by rfl) (fun h => ?_) (fun h => WP.skip ?_)
          · cases h
          refine WP.seq ?_
          refine WP.rs T false tok (by rfl) (by exact byObl) ?_
          refine WP.cond (by rfl) (fun h => ?_) (fun h => ?_)
          case refine_2 => cases h
          refine WP.rw ?_
          refine WPL.run T false 1 tok (by rfl) (by exact byObl) ?_
          refine WPL.call (hg1) (by rfl) (by rfl) (by rfl) (by simp [Sc, sc_pl, sc_ds, pl_ne, ds_ne]) ?_
          refine WPL.fin T false tok (by rfl) (by exact byObl) ?_
          refine WP.rw ?_
          refine WPL.run T false 6 tok (by rfl) (by exact byObl) ?_
          rw [beq_self_eq_true yes]
          refine WPL.fin T false tok (by rfl) (by exact byObl) ?_
          refine WP.cond (by rfl) (fun h => ?_) (fun h => WP.skip ?_)
          · cases h
          refine WP.seq ?_
          refine WP.rs T false tok (by rfl) (by exact byObl) ?_
          refine WP.cond (by rfl) (fun h => ?_) (fun h => WP.skip ?_)
          · cases h
          refine WP.ghost (Ghost.cut (Nat.le_refl _) (tauOf [0, 1, 2, 3]) [(3, .p 1 [] 0), (4, .p 2 [] 0), (5, .sl 3 0 L.length 16)] [.ro len 1 (byF g), .var (ds_ N b w), .var (ds_ M b' w'), .row 25 L.length 16 (plsF L)] (Taken.of [0, 1, 2, 3] (LeAll.cons (by rfl) (by first | with_reducible exact Root.Le.refl _ | with_reducible exact le_dead | (skip; done) | exact byLeq) (by exact byCon) (LeAll.cons (by rfl) (by first | with_reducible exact Root.Le.refl _ | with_reducible exact le_dead | (skip; done) | exact byLeq) (by exact byCon) (LeAll.cons (by rfl) (by first | with_reducible exact Root.Le.refl _ | with_reducible exact le_dead | (skip; done) | exact byLeq) (by exact byCon) (LeAll.cons (by rfl) (by first | with_reducible exact Root.Le.refl _ | with_reducible exact le_dead | (skip; done) | exact byLeq) (by exact byCon) (trivial))))) rfl rfl) (by exact bySlots)) ?_
          exact hr
      · obtain ⟨F, rfl, hDf⟩ := des_of_B hdf
        rw [hdf, cond_true, Int.toNat_natCast] at ha1 ha2
        have hFl := isoR_len (M := F) hDf.le bf wf bf wf
        have hFd : (isoR F bf wf F bf wf).length ∣ F := by unfold isoR; rw [if_pos rfl]; exact auts_dvd hDf
        have hFp : 0 < (isoR F bf wf F bf wf).length := by unfold isoR; rw [if_pos rfl]; exact auts_pos hDf
        have hF16 := hDf.le
        have hf9 := places9_fn (isoR F bf wf F bf wf).length (fun j => (isoR F bf wf F bf wf).getD j fun _ => 0) (by omega)
        generalize isoR F bf wf F bf wf = LF at *
        refine WP.rw ?_
        refine WPL.run T false 1 tok (by rfl) (by exact byObl) ?_
        refine WPL.callN [] (t2 (.sl 5 0 LF.length 16) (.i .i64 0)) (ha1) (trivial) (by rfl) (by rfl) (by exact byArgs) (by rfl) (by rfl) (by simp [Sc, sc_pl, sc_ds]) (by exact byAllc) (ren_t2 rfl ⟨rfl, trivial⟩) (by exact bySc) rfl ?_
        refine WPL.fin T false tok (by rfl) (by exact byObl) ?_
        refine WP.seq ?_
        refine WP.rw ?_
        refine WPL.run T false 1 tok (by rfl) (by exact byObl) ?_
        refine WPL.callN [] (t2 (.sl 6 0 LF.length 16) (.i .i64 0)) (ha2) (trivial) (by rfl) (by rfl) (by exact byArgs) (by rfl) (by rfl) (by simp [Sc, sc_pl, sc_ds]) (by exact byAllc) (ren_t2 rfl ⟨rfl, trivial⟩) (by exact bySc) rfl ?_
        refine WPL.fin T false tok (by rfl) (by exact byObl) ?_
        refine WP.rw ?_
        refine WPL.run T false 6 tok (by rfl) (by exact byObl) ?_
        refine WPL.callR [5, 6] (hf9) (by rfl) (LeAll.cons (by rfl) (by first | with_reducible exact Root.Le.refl _ | with_reducible exact le_dead | (skip; done) | exact byLeq) (by exact byCon) (LeAll.cons (by rfl) (by first | with_reducible exact Root.Le.refl _ | with_reducible exact le_dead | (skip; done) | exact byLeq) (by exact byCon) (trivial))) (by exact byArgs) (by rfl) (by rfl) (by simp [Sc, sc_pl, sc_ds]) ?_
        refine WPL.fin T false tok (by rfl) (by exact byObl) ?_
        refine WP.cond (by rfl) (fun h => ?_) (fun h => WP.skip ?_)
        · cases h
        refine WP.rw ?_
        refine WPL.run T false 1 tok (by rfl) (by exact byObl) ?_
        refine WPL.callE [0] (hdR) (LeAll.cons (by rfl) (by first | with_reducible exact Root.Le.refl _ | with_reducible exact le_dead | (skip; done) | exact byLeq) (by exact byCon) (trivial)) (by rfl) (by rfl) (by exact byArgs) (by rfl) (by rfl) (by simp [Sc, sc_pl, sc_ds]) ?_
        rintro _ _ ⟨ng, bg, wg, rfl, ⟨_, _, hbg, hwg⟩, rfl⟩
        refine ⟨⟨fun d hd => by cases hd; exact fun _ _ => trivial, trivial⟩, ds_ ng bg wg, ⟨rfl, sc_ds _ _ _ _⟩, sc_ds _ _ _ _, ?_⟩
        refine WPL.mem (by rfl) ?_
        refine WPL.fin T false tok (by rfl) (by exact byObl) ?_
        have hr1 := implReg_fn ng bg wg hbg.lt hwg.lt
        have hr2 := specReg_fn ng bg wg hbg.lt hwg.lt
        cases hdg : desB ng bg wg
        · rw [show regR ng bg wg = t2 (.b false) (.i .i64 1) by unfold regR; rw [hdg]; rfl] at hr1 hr2
          refine WP.rw ?_
          refine WPL.run T false 1 tok (by rfl) (by exact byObl) ?_
          refine WPL.call (hr1) (by rfl) (by rfl) (by rfl) (by simp [Sc, sc_pl, sc_ds, pl_ne, ds_ne]) ?_
          refine WPL.fin T false tok (by rfl) (by exact byObl) ?_
          refine WP.seq ?_
          refine WP.rw ?_
          refine WPL.run T false 1 tok (by rfl) (by exact byObl) ?_
          refine WPL.call (hr2) (by rfl) (by rfl) (by rfl) (by simp [Sc, sc_pl, sc_ds, pl_ne, ds_ne]) ?_
          refine WPL.fin T false tok (by rfl) (by exact byObl) ?_
          refine WP.rw ?_
          refine WPL.fin T false tok (by rfl) (by exact byObl) ?_
          refine WP.cond (by rfl) (fun h => ?_) (fun h => WP.skip ?_)
          · cases h
          refine WP.seq ?_
          refine WP.rw ?_
          refine WPL.run T false 6 tok (by rfl) (by exact byObl) ?_
          rw [decide_eq_false (by omega : ¬ ((LF.length : Nat) : Int) < 1)]
          refine WPL.run T false 7 tok (by rfl) (by exact byObl) ?_
          rw [decide_eq_true (Int.tmod_eq_zero_of_dvd (Int.natCast_dvd_natCast.2 hFd))]
          refine WPL.fin T false tok (by rfl) (by exact byObl) ?_
          refine WP.cond (by rfl) (fun h => ?_) (fun h => WP.skip ?_)
          · cases h
          refine WP.seq ?_
          refine WP.rs T false tok (by rfl) (by exact byObl) ?_
          refine WP.cond (by rfl) (fun h => ?_) (fun h => ?_)
          · cases h
          refine WP.skip ?_
          refine WP.seq ?_
          refine WP.rs T false tok (by rfl) (by exact byObl) ?_
          refine WP.cond (by rfl) (fun h => ?_) (fun h => WP.skip ?_)
          · cases h
          refine WP.ghost (Ghost.cut (Nat.le_refl _) (tauOf [0, 1, 2, 3]) [(3, .p 1 [] 0), (4, .p 2 [] 0), (5, .sl 3 0 L.length 16)] [.ro len 1 (byF g), .var (ds_ N b w), .var (ds_ M b' w'), .row 25 L.length 16 (plsF L)] (Taken.of [0, 1, 2, 3] (LeAll.cons (by rfl) (by first | with_reducible exact Root.Le.refl _ | with_reducible exact le_dead | (skip; done) | exact byLeq) (by exact byCon) (LeAll.cons (by rfl) (by first | with_reducible exact Root.Le.refl _ | with_reducible exact le_dead | (skip; done) | exact byLeq) (by exact byCon) (LeAll.cons (by rfl) (by first | with_reducible exact Root.Le.refl _ | with_reducible exact le_dead | (skip; done) | exact byLeq) (by exact byCon) (LeAll.cons (by rfl) (by first | with_reducible exact Root.Le.refl _ | with_reducible exact le_dead | (skip; done) | exact byLeq) (by exact byCon) (trivial))))) rfl rfl) (by exact bySlots)) ?_
          exact hr
        · obtain ⟨G, rfl, hDg⟩ := des_of_B hdg
          obtain ⟨_, eG, _, hnb, hnw⟩ := des_np hdg hbg.z hwg.z
          obtain rfl := Int.ofNat_inj.1 eG
          have hg1 := implIsRegular_fn G bg wg hbg.lt hwg.lt hbg.z hwg.z
          have hyes : decide (((isoR G bg wg G bg wg).length : Int) = (G : Int)) = decide (((ordG G [bg, wg] : Nat) : Int) = (G : Int)) := by
            have := regular_iff hDg hnb hnw
            unfold isoR
            rw [if_pos rfl]
            by_cases c : (isoL G bg wg bg wg G).length = G
            · rw [decide_eq_true (by omega), decide_eq_true (by have := this.1 c; omega)]
            · rw [decide_eq_false (by omega), decide_eq_false (by intro e; exact c (this.2 (by omega)))]
          rw [show regR G bg wg = t2 (.b (decide (((isoR G bg wg G bg wg).length : Int) = (G : Int)))) (.i .i64 0) by unfold regR; rw [hdg]; rfl, hyes] at hr1 hr2
          rw [show irR G bg wg = t2 (.b (decide (((ordG G [bg, wg] : Nat) : Int) = (G : Int)))) (.i .i64 0) by unfold irR; rw [hdg]; rfl] at hg1
          generalize decide (((ordG G [bg, wg] : Nat) : Int) = (G : Int)) = yes at *
          refine WP.rw ?_
          refine WPL.run T false 1 tok (by rfl) (by exact byObl) ?_
          refine WPL.call (hr1) (by rfl) (by rfl) (by rfl) (by simp [Sc, sc_pl, sc_ds, pl_ne, ds_ne]) ?_
          refine WPL.fin T false tok (by rfl) (by exact byObl) ?_
          refine WP.seq ?_
          refine WP.rw ?_
          refine WPL.run T false 1 tok (by rfl) (by exact byObl) ?_
          refine WPL.call (hr2) (by rfl) (by rfl) (by rfl) (by simp [Sc, sc_pl, sc_ds, pl_ne, ds_ne]) ?_
          refine WPL.fin T false tok (by rfl) (by exact byObl) ?_
          refine WP.rw ?_
          refine WPL.run T false 7 tok (by rfl) (by exact byObl) ?_
          rw [beq_self_eq_true yes]
          refine WPL.fin T false tok (by rfl) (by exact byObl) ?_
          refine WP.cond (by rfl) (fun h => ?_) (fun h => WP.skip ?_)
          · cases h
          refine WP.seq ?_
          refine WP.rw ?_
          refine WPL.run T false 6 tok (by rfl) (by exact byObl) ?_
          rw [decide_eq_false (by omega : ¬ ((LF.length : Nat) : Int) < 1)]
          refine WPL.run T false 7 tok (by rfl) (by exact byObl) ?_
          rw [decide_eq_true (Int.tmod_eq_zero_of_dvd (Int.natCast_dvd_natCast.2 hFd))]
          refine WPL.fin T false tok (by rfl) (by exact byObl) ?_
          refine WP.cond (by rfl) (fun h => ?_) (fun h => WP.skip ?_)
          · cases h
          refine WP.seq ?_
          refine WP.rs T false tok (by rfl) (by exact byObl) ?_
          refine WP.cond (by rfl) (fun h => ?_) (fun h => ?_)
          case refine_2 => cases h
          refine WP.rw ?_
          refine WPL.run T false 1 tok (by rfl) (by exact byObl) ?_
          refine WPL.call (hg1) (by rfl) (by rfl) (by rfl) (by simp [Sc, sc_pl, sc_ds, pl_ne, ds_ne]) ?_
          refine WPL.fin T false tok (by rfl) (by exact byObl) ?_
          refine WP.rw ?_
          refine WPL.run T false 6 tok (by rfl) (by exact byObl) ?_
          rw [beq_self_eq_true yes]
          refine WPL.fin T false tok (by rfl) (by exact byObl) ?_
          refine WP.cond (by rfl) (fun h => ?_) (fun h => WP.skip ?_)
          · cases h
          refine WP.seq ?_
          refine WP.rs T false tok (by rfl) (by exact byObl) ?_
          refine WP.cond (by rfl) (fun h => ?_) (fun h => WP.skip ?_)
          · cases h
          refine WP.ghost (Ghost.cut (Nat.le_refl _) (tauOf [0, 1, 2, 3]) [(3, .p 1 [] 0), (4, .p 2 [] 0), (5, .sl 3 0 L.length 16)] [.ro len 1 (byF g), .var (ds_ N b w), .var (ds_ M b' w'), .row 25 L.length 16 (plsF L)] (Taken.of [0, 1, 2, 3] (LeAll.cons (by rfl) (by first | with_reducible exact Root.Le.refl _ | with_reducible exact le_dead | (skip; done) | exact byLeq) (by exact byCon) (LeAll.cons (by rfl) (by first | with_reducible exact Root.Le.refl _ | with_reducible exact le_dead | (skip; done) | exact byLeq) (by exact byCon) (LeAll.cons (by rfl) (by first | with_reducible exact Root.Le.refl _ | with_reducible exact le_dead | (skip; done) | exact byLeq) (by exact byCon) (LeAll.cons (by rfl) (by first | with_reducible exact Root.Le.refl _ | with_reducible exact le_dead | (skip; done) | exact byLeq) (by exact byCon) (trivial))))) rfl rfl) (by exact bySlots)) ?_
          exact hr

end Go.Proofs.Ytakapfgjdhliaaa
