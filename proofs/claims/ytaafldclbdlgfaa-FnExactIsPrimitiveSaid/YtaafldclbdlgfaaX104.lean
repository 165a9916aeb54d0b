import Derived.Test.YtaafldclbdlgfaaX103
import Derived.Test.YtaafldclbdlgfaaL36
import Derived.Test.YtaafldclbdlgfaaX30
import Derived.Test.YtaafldclbdlgfaaX9
/- BlocksOf and IsPrimitive of the program. -/
namespace Go.Proofs.Ytaafldclbdlgfaa
open Go.RowKit DM
open Go.Sort (SWO)
set_option linter.unusedSimpArgs false
set_option linter.unusedVariables false
set_option maxRecDepth 100000
set_option maxHeartbeats 1000000

theorem bef_swo : SWO fun l k : List Nat => decide (cfB l k < 0) := by
  refine ⟨fun x => ?_, fun x y z h1 h2 => ?_, fun x y z h1 h2 => ?_⟩
  · rw [decide_eq_false_iff_not, cfB_bef]; exact bef_irr x
  · rw [decide_eq_true_eq, cfB_bef] at *; exact bef_trans h1 h2
  · rw [decide_eq_false_iff_not, cfB_bef] at *
    intro h3
    have a1 := bef_rng x y
    have a2 := bef_anti x y
    by_cases e : befL x y = 0
    · rw [bef_eq.1 e] at h3; exact h2 h3
    · exact h2 (bef_trans (show befL y x < 0 by omega) h3)

theorem blocksOf1_enter : ∀ args w, (callFunc 52 args).run Try.prog w = .ok (.enter 52 args) w := callFunc_run Try.func52 rfl rfl

theorem sortB_fn (L : List (List Nat)) (hL : ∀ l ∈ L, l.length ≤ 65536) (hn : L.length ≤ 65536) :
    FnS Try.prog 47 [.sl 0 0 L.length 1, .fn 52 0 (fun _ => .un)] [.row 34 L.length 1 (rowsF L)] fun r m' => ∃ L', L'.Perm L ∧ (L'.Pairwise fun l k => ¬ cfB k l < 0) ∧ r = .tup 0 (fun _ => .un) ∧ m' = [.row 34 L.length 1 (rowsF L')] :=
  sortFunc_fn blocksOf1_enter bef_swo blocksOf1_fn L hL hn

noncomputable def blR (n : Int) (b w : Nat → Nat) : Dat × List Root := bif desB n b w then (t2 (.sl 0 0 (blsL n.toNat b w (n.toNat - 1)).length 1) (.i .i64 0), [.row 34 (blsL n.toNat b w (n.toNat - 1)).length 1 (rowsF (blsL n.toNat b w (n.toNat - 1)))]) else (t2 .ns (.i .i64 1), [])

theorem implBlocks_fn (n : Int) (b w : Nat → Nat) (hb : ∀ i, b i < 256) (hw : ∀ i, w i < 256) : FnS Try.prog 21 [ds_ n b w] [] (fun r m' => r = (blR n b w).1 ∧ m' = (blR n b w).2) := by
  cases hc : desB n b w
  · have e : blR n b w = (t2 .ns (.i .i64 1), []) := by unfold blR; rw [hc]; rfl
    rw [e]
    refine FnS.intoN T tok Try.func21 (by rfl) rfl rfl rfl (by simp) ?_
    refine WP.rs T false tok (by rfl) (by exact byObl) ?_
    refine WP.seq ?_
    refine WP.rw ?_
    refine WPL.run T false 1 tok (by rfl) (by exact byObl) ?_
    refine WPL.call (hc ▸ implIsDessin_fn n b w hb hw) (by rfl) (by rfl) (by rfl) (by simp [Sc, sc_pl, sc_ds, pl_ne, ds_ne]) ?_
    refine WPL.fin T false tok (by rfl) (by exact byObl) ?_
    refine WP.cond (by rfl) (fun h => ?_) (fun h => WP.skip ?_)
    · refine WP.rs T false tok (by rfl) (by exact byObl) ?_
      exact WP.ret (Ends.new [] (by rfl) (by exact byObl) (trivial) rfl rfl (ren_t2 ⟨rfl, trivial⟩ ⟨rfl, trivial⟩) (sc_t2 trivial trivial))
    · cases h
  · obtain ⟨N, rfl, hD⟩ := des_of_B hc
    have e : blR N b w = (t2 (.sl 0 0 (blsL N b w (N - 1)).length 1) (.i .i64 0), [.row 34 (blsL N b w (N - 1)).length 1 (rowsF (blsL N b w (N - 1)))]) := by unfold blR; rw [hc]; rfl
    rw [e]
    have hN := hD.le
    have hN1 := hD.pos
    refine FnS.intoN T tok Try.func21 (by rfl) rfl rfl rfl (by simp) ?_
    refine WP.rs T false tok (by rfl) (by exact byObl) ?_
    refine WP.seq ?_
    refine WP.rw ?_
    refine WPL.run T false 1 tok (by rfl) (by exact byObl) ?_
    refine WPL.call (hc ▸ implIsDessin_fn N b w hb hw) (by rfl) (by rfl) (by rfl) (by simp [Sc, sc_pl, sc_ds, pl_ne, ds_ne]) ?_
    refine WPL.fin T false tok (by rfl) (by exact byObl) ?_
    refine WP.cond (by rfl) (fun h => ?_) (fun h => WP.skip ?_)
    · cases h
    clear h
    refine WP.rs T false tok (by rfl) (by exact byObl) ?_
    refine WP.seq ?_
    refine WP.rs T false tok (by rfl) (by exact byObl) ?_
    refine WP.block ?_
    refine WP.loopH (⟨fun k : Nat => k + 1 ≤ N, fun k => [(1, .p 0 [] 0), (4, .sl 1 0 k 1), (5, .i .i64 ((k + 1 : Nat) : Int))], fun k => [.var (ds_ N b w), .row 34 k 1 (rowsF (bkR N b w k))], fun k => N - k⟩) (0) (by omega) (Ghost.cut (Nat.le_refl _) (tauOf [0, 1]) _ _ (Taken.of [0, 1] (LeAll.cons (by rfl) (by first | with_reducible exact Root.Le.refl _ | with_reducible exact le_dead | (exact le_row (Nat.le_refl _) (fun j hj => absurd hj (Nat.not_lt_zero _))) | exact byLeq) (by exact byCon) (LeAll.cons (by rfl) (by first | with_reducible exact Root.Le.refl _ | with_reducible exact le_dead | (exact le_row (Nat.le_refl _) (fun j hj => absurd hj (Nat.not_lt_zero _))) | exact byLeq) (by exact byCon) (trivial))) rfl rfl) (by exact bySlots)) ?_
    intro k hk
    dsimp only at hk
    dsimp only [Hd.at]
    refine WP.seq ?_
    refine WP.rs T false tok (by rfl) (by exact byObl) ?_
    refine WP.cond (by rfl) (fun hc => WP.skip ?_) (fun hc => WP.exit ?_)
    · have hk : k + 1 < N := by have := of_decide_eq_true hc; omega
      clear hc
      have hbl := block_fn N b w 0 (k + 1) (by omega) hk hN hD.pb.lt hD.pw.lt
      have hap : ∀ g j, j < k + 1 → rowsF (bkR N b w (k + 1)) j = fup (apF k (rowsF (bkR N b w k)) 0 g) k (owN (blkL N b w 0 (k + 1))) j := fun g j hj => by
        have := ap_rows (bkR N b w k) (blkL N b w 0 (k + 1)) g j (by rw [bkR_len]; exact hj)
        rw [bkR_len, ← bkR_step] at this
        exact this
      refine WP.seq (WP.block ?_)
      refine WP.region ?_
      refine WPL.run T false 3 tok (by rfl) (by exact byObl) ?_
      refine WPL.callN [] (.sl 2 0 (blkL N b w 0 (k + 1)).length 1) (hbl) (trivial) (by rfl) (by rfl) (by exact byArgs) (by rfl) (by rfl) (by simp [Sc, sc_pl, sc_ds]) (by exact byAllc) (rfl) (by exact bySc) rfl ?_
      refine WPL.fin T false tok (by rfl) (by exact byObl) ?_
      refine WP.run T false tok (by rfl) (by exact byObl) ?_
      refine Again.step (Ghost.giveLast 4 2 (by rfl) rfl rfl (by rfl) (by rfl) (Nat.le_refl _)) ?_
      refine Again.next (k + 1) (Ghost.cut (Nat.le_refl _) (tauOf [0, 4]) _ _ (Taken.of [0, 4] (LeAll.cons (by rfl) (by first | with_reducible exact Root.Le.refl _ | with_reducible exact le_dead | (exact le_row (Nat.le_refl _) (fun j hj => hap _ j hj)) | exact byLeq) (by exact byCon) (LeAll.cons (by rfl) (by first | with_reducible exact Root.Le.refl _ | with_reducible exact le_dead | (exact le_row (Nat.le_refl _) (fun j hj => hap _ j hj)) | exact byLeq) (by exact byCon) (trivial))) rfl rfl) (by exact bySlots)) (hk) (by dsimp only; omega)
    · have hk : k = N - 1 := by have := of_decide_eq_false hc; omega
      clear hc
      have hsm : ∀ l ∈ bkR N b w k, l.length ≤ 65536 := fun l hl => by have := bkR_small N b w k l hl; omega
      have hsb := sortB_fn (bkR N b w k) hsm (by rw [bkR_len]; omega)
      rw [bkR_len] at hsb
      refine WP.rw ?_
      refine WPL.run T false 1 tok (by rfl) (by exact byObl) ?_
      refine WPL.callE [1] (hsb) (LeAll.cons (by rfl) (by first | with_reducible exact Root.Le.refl _ | with_reducible exact le_dead | (skip; done) | exact byLeq) (by exact byCon) (trivial)) (by rfl) (by rfl) (by exact byArgs) (by rfl) (by rfl) (by simp [Sc, sc_pl, sc_ds]) ?_
      rintro _ _ ⟨L', hp, hs, rfl, rfl⟩
      have hl' : L'.length = k := by rw [hp.length_eq, bkR_len]
      have hcm := cmp_bls hp (hs.imp fun {a c} h h2 => h ((cfB_bef c a).2 h2))
      have hcf := compact_fn L' (fun l hl => hsm l (hp.mem_iff.1 hl)) (by omega)
      rw [hcm, hl'] at hcf
      refine ⟨⟨fun d hd => by cases hd; exact fun _ _ _ _ => trivial, trivial⟩, .tup 0 (fun _ => .un), ⟨_, rfl, fun i hi => absurd hi (Nat.not_lt_zero _)⟩, fun i hi => absurd hi (Nat.not_lt_zero _), ?_⟩
      refine WPL.nil ?_
      refine WP.rw ?_
      refine WPL.run T false 1 tok (by rfl) (by exact byObl) ?_
      refine WPL.callN [1] (.sl 1 0 (blsL N b w k).length 1) (hcf) (LeAll.cons (by rfl) (by first | with_reducible exact Root.Le.refl _ | with_reducible exact le_dead | (skip; done) | exact byLeq) (by exact byCon) (trivial)) (by rfl) (by rfl) (by exact byArgs) (by rfl) (by rfl) (by simp [Sc, sc_pl, sc_ds]) (by exact byAllc) (rfl) (by exact bySc) rfl ?_
      refine WPL.fin T false tok (by rfl) (by exact byObl) ?_
      subst hk
      exact WP.ret (Ends.new [1] (by rfl) (by exact byObl) (LeAll.cons (by rfl) (by first | with_reducible exact Root.Le.refl _ | with_reducible exact le_dead | (skip; done) | exact byLeq) (by exact byCon) (trivial)) rfl rfl (ren_t2 rfl ⟨rfl, trivial⟩) (sc_t2 (sc_sl rfl) trivial))

end Go.Proofs.Ytaafldclbdlgfaa
