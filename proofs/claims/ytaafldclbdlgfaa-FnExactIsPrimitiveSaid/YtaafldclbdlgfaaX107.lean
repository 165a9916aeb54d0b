import Derived.Test.YtaafldclbdlgfaaX104
import Derived.Test.YtaafldclbdlgfaaX105
import Derived.Test.YtaafldclbdlgfaaL3
/- IsPrimitive: both sides, and the law. -/
namespace Go.Proofs.Ytaafldclbdlgfaa
open Go.RowKit DM
set_option linter.unusedSimpArgs false
set_option linter.unusedVariables false
set_option maxRecDepth 100000
set_option maxHeartbeats 1000000

def prB (N : Nat) (B : List (List Nat)) : Bool := decide (B.length = 0) || decide ((B.getD 0 []).length = N)

theorem srt_first {B : List (List Nat)} (h : Srt B) {i : Nat} (hi : i < B.length) : (B.getD 0 []).length ≤ (B.getD i []).length := by
  cases i with
  | zero => exact Nat.le_refl _
  | succ i =>
    have h1 := List.pairwise_iff_getElem.1 h 0 (i + 1) (by omega) hi (by omega)
    simp only [List.getD_eq_getElem?_getD, List.getElem?_eq_getElem hi, List.getElem?_eq_getElem (show 0 < B.length by omega), Option.getD_some]
    unfold befL at h1
    split at h1
    · omega
    · split at h1
      · omega
      · omega

noncomputable def prR (n : Int) (b w : Nat → Nat) : Dat := bif desB n b w then t2 (.b (prB n.toNat (blsL n.toNat b w (n.toNat - 1)))) (.i .i64 0) else t2 (.b false) (.i .i64 1)
theorem prR_form (n : Int) (b w : Nat → Nat) : ∃ r c, prR n b w = t2 (.b r) (.i .i64 c) := by
  unfold prR
  cases desB n b w
  · exact ⟨_, _, rfl⟩
  · exact ⟨_, _, rfl⟩

theorem implPrim_fn (n : Int) (b w : Nat → Nat) (hb : ∀ i, b i < 256) (hw : ∀ i, w i < 256) : FnP Try.prog 23 [ds_ n b w] (prR n b w) := by
  have hbl := implBlocks_fn n b w hb hw
  cases hc : desB n b w
  · have e : prR n b w = t2 (.b false) (.i .i64 1) := by unfold prR; rw [hc]; rfl
    have e' : blR n b w = (t2 .ns (.i .i64 1), []) := by unfold blR; rw [hc]; rfl
    rw [e]
    rw [e'] at hbl
    refine FnS.into T tok Try.func23 (by rfl) rfl rfl rfl (by simp) ?_
    refine WP.rs T false tok (by rfl) (by exact byObl) ?_
    refine WP.rw ?_
    refine WPL.run T false 1 tok (by rfl) (by exact byObl) ?_
    refine WPL.callN [] (t2 .ns (.i .i64 1)) (hbl) (trivial) (by rfl) (by rfl) (by exact byArgs) (by rfl) (by rfl) (by simp [Sc, sc_pl, sc_ds]) (by exact byAllc) (ren_t2 ⟨rfl, trivial⟩ ⟨rfl, trivial⟩) (by exact bySc) rfl ?_
    refine WPL.fin T false tok (by rfl) (by exact byObl) ?_
    refine WP.seq ?_
    refine WP.rs T false tok (by rfl) (by exact byObl) ?_
    refine WP.block ?_
    refine WP.loopH (⟨fun _ : Nat => True, fun i => [(1, .p 0 [] 0), (2, .b false), (3, .i .i64 0), (5, .i .i64 1), (13, .ns), (14, .i .i64 0), (15, .i .i64 0)], fun i => [.var (ds_ n b w)], fun i => 0⟩) (0) (trivial) (Ghost.cut (Nat.le_refl _) (tauOf [0]) _ _ (Taken.of [0] (LeAll.cons (by rfl) (by first | with_reducible exact Root.Le.refl _ | with_reducible exact le_dead | (skip; done) | exact byLeq) (by exact byCon) (trivial)) rfl rfl) (by exact bySlots)) ?_
    intro i _
    dsimp only [Hd.at]
    refine WP.rs T false tok (by rfl) (by exact byObl) ?_
    refine WP.seq ?_
    refine WP.cond (by rfl) (fun hc2 => WP.skip ?_) (fun hc2 => WP.exit ?_)
    · simp at hc2
    · refine WP.rs T false tok (by rfl) (by exact byObl) ?_
      exact WP.ret (Ends.val (by rfl) (by exact byObl) (by rfl) (by exact sc_t2 trivial trivial))
  · obtain ⟨N, rfl, hD⟩ := des_of_B hc
    have e : prR N b w = t2 (.b (prB N (blsL N b w (N - 1)))) (.i .i64 0) := by unfold prR; rw [hc]; rfl
    have e' : blR N b w = (t2 (.sl 0 0 (blsL N b w (N - 1)).length 1) (.i .i64 0), [.row 34 (blsL N b w (N - 1)).length 1 (rowsF (blsL N b w (N - 1)))]) := by unfold blR; rw [hc]; rfl
    rw [e]
    rw [e'] at hbl
    have hsrt := (bls_srt N b w (N - 1)).1
    have hbl1 := bls_len N b w (N - 1)
    have hbs := bls_small N b w (N - 1)
    have hN := hD.le
    have hN1 := hD.pos
    generalize blsL N b w (N - 1) = B at *
    refine FnS.into T tok Try.func23 (by rfl) rfl rfl rfl (by simp) ?_
    refine WP.rs T false tok (by rfl) (by exact byObl) ?_
    refine WP.rw ?_
    refine WPL.run T false 1 tok (by rfl) (by exact byObl) ?_
    refine WPL.callN [] (t2 (.sl 1 0 B.length 1) (.i .i64 0)) (hbl) (trivial) (by rfl) (by rfl) (by exact byArgs) (by rfl) (by rfl) (by simp [Sc, sc_pl, sc_ds]) (by exact byAllc) (ren_t2 rfl ⟨rfl, trivial⟩) (by exact bySc) rfl ?_
    refine WPL.fin T false tok (by rfl) (by exact byObl) ?_
    refine WP.seq ?_
    refine WP.rs T false tok (by rfl) (by exact byObl) ?_
    refine WP.block ?_
    refine WP.loopH (⟨fun i : Nat => i ≤ B.length ∧ ∀ j, j < i → (B.getD j []).length = N, fun i => [(1, .p 0 [] 0), (2, .b false), (3, .i .i64 0), (5, .i .i64 0), (13, .sl 1 0 B.length 1), (14, .i .i64 (B.length : Int)), (15, .i .i64 (i : Int))], fun i => [.var (ds_ N b w), .ro B.length 1 (rowsF B)], fun i => B.length - i⟩) (0) (⟨Nat.zero_le _, fun j hj => absurd hj (Nat.not_lt_zero _)⟩) (Ghost.cut (Nat.le_refl _) (tauOf [0, 1]) _ _ (Taken.of [0, 1] (LeAll.cons (by rfl) (by first | with_reducible exact Root.Le.refl _ | with_reducible exact le_dead | (skip; done) | exact byLeq) (by exact byCon) (LeAll.cons (by rfl) (by first | with_reducible exact Root.Le.refl _ | with_reducible exact le_dead | (skip; done) | exact byLeq) (by exact byCon) (trivial))) rfl rfl) (by exact bySlots)) ?_
    intro i hi
    dsimp only at hi
    dsimp only [Hd.at]
    obtain ⟨hi1, hi2⟩ := hi
    have hbi := hbs i
    refine WP.rs T false tok (by rfl) (by exact byObl) ?_
    refine WP.seq ?_
    refine WP.cond (by rfl) (fun hc => WP.skip ?_) (fun hc => WP.exit ?_)
    · have hi : i < B.length := by have := of_decide_eq_true hc; omega
      clear hc
      have hs := srt_first hsrt hi
      refine WP.seq (WP.block ?_)
      refine WP.rs T false tok (by rfl) (by exact byObl) ?_
      refine WP.rs T false tok (by rfl) (by exact byObl) ?_
      refine WP.cond (by rfl) (fun h => ?_) (fun h => ?_)
      · have h : (B.getD i []).length ≠ N := by simp [addrAt0] at h; simp; omega
        refine WP.rs T false tok (by rfl) (by exact byObl) ?_
        exact WP.ret (Ends.val (by rfl) (by exact byObl) (by show t2 (.b false) (.i .i64 0) = _; rw [show prB N B = false from by unfold prB; rw [decide_eq_false (by omega), decide_eq_false (by omega)]; rfl]) (by exact sc_t2 trivial trivial))
      · have h : (B.getD i []).length = N := by simp [addrAt0] at h; simp; omega
        refine WP.skip ?_
        refine WP.run T false tok (by rfl) (by exact byObl) ?_
        refine Again.next (i + 1) (Ghost.cut (Nat.le_refl _) (tauOf [0, 1]) _ _ (Taken.of [0, 1] (LeAll.cons (by rfl) (by first | with_reducible exact Root.Le.refl _ | with_reducible exact le_dead | (skip; done) | exact byLeq) (by exact byCon) (LeAll.cons (by rfl) (by first | with_reducible exact Root.Le.refl _ | with_reducible exact le_dead | (skip; done) | exact byLeq) (by exact byCon) (trivial))) rfl rfl) (by exact bySlots)) (⟨hi, fun j hj => by
          by_cases e : j = i
          · subst e; exact h
          · exact hi2 j (by omega)⟩) (by dsimp only; omega)
    · have hi : i = B.length := by have := of_decide_eq_false hc; omega
      subst hi
      clear hc
      have hp : prB N B = true := by
        unfold prB
        by_cases h0 : B.length = 0
        · rw [decide_eq_true h0]; rfl
        · rw [decide_eq_false h0, decide_eq_true (hi2 0 (by omega))]; rfl
      rw [hp]
      refine WP.rs T false tok (by rfl) (by exact byObl) ?_
      exact WP.ret (Ends.val (by rfl) (by exact byObl) (by rfl) (by exact sc_t2 trivial trivial))

theorem specPrim_fn (n : Int) (b w : Nat → Nat) (hb : ∀ i, b i < 256) (hw : ∀ i, w i < 256) : FnP Try.prog 22 [ds_ n b w] (prR n b w) := by
  cases hc : desB n b w
  · have e : prR n b w = t2 (.b false) (.i .i64 1) := by unfold prR; rw [hc]; rfl
    rw [e]
    refine FnS.into T tok Try.func22 (by rfl) rfl rfl rfl (by simp) ?_
    refine WP.rs T false tok (by rfl) (by exact byObl) ?_
    refine WP.seq ?_
    refine WP.rw ?_
    refine WPL.run T false 1 tok (by rfl) (by exact byObl) ?_
    refine WPL.call (hc ▸ l01Is_fn n b w hb hw) (by rfl) (by rfl) (by rfl) (by simp [Sc, sc_pl, sc_ds, pl_ne, ds_ne]) ?_
    refine WPL.fin T false tok (by rfl) (by exact byObl) ?_
    refine WP.cond (by rfl) (fun h => ?_) (fun h => WP.skip ?_)
    · refine WP.rs T false tok (by rfl) (by exact byObl) ?_
      exact WP.ret (Ends.val (by rfl) (by exact byObl) (by rfl) (by exact sc_t2 trivial trivial))
    · cases h
  · obtain ⟨N, rfl, hD⟩ := des_of_B hc
    have e : prR N b w = t2 (.b (prB N (blsL N b w (N - 1)))) (.i .i64 0) := by unfold prR; rw [hc]; rfl
    rw [e]
    have hbl := l03Blocks_fn N b w hD.le hD.pos hD.pb.lt hD.pw.lt
    have hbl1 := bls_len N b w (N - 1)
    have hbs := bls_small N b w (N - 1)
    have hN := hD.le
    generalize blsL N b w (N - 1) = B at *
    refine FnS.into T tok Try.func22 (by rfl) rfl rfl rfl (by simp) ?_
    refine WP.rs T false tok (by rfl) (by exact byObl) ?_
    refine WP.seq ?_
    refine WP.rw ?_
    refine WPL.run T false 1 tok (by rfl) (by exact byObl) ?_
    refine WPL.call (hc ▸ l01Is_fn N b w hb hw) (by rfl) (by rfl) (by rfl) (by simp [Sc, sc_pl, sc_ds, pl_ne, ds_ne]) ?_
    refine WPL.fin T false tok (by rfl) (by exact byObl) ?_
    refine WP.cond (by rfl) (fun h => ?_) (fun h => WP.skip ?_)
    · cases h
    clear h
    refine WP.rw ?_
    refine WPL.run T false 1 tok (by rfl) (by exact byObl) ?_
    refine WPL.callN [] (.sl 1 0 B.length 1) (hbl) (trivial) (by rfl) (by rfl) (by exact byArgs) (by rfl) (by rfl) (by simp [Sc, sc_pl, sc_ds]) (by exact byAllc) (rfl) (by exact bySc) rfl ?_
    refine WPL.fin T false tok (by rfl) (by exact byObl) ?_
    refine WP.seq ?_
    refine WP.drawsQ (by kernel_rfl) (by kernel_rfl) ?_
    refine WQ.run T false 3 tok (by rfl) (by rfl) (by exact byObl) ?_
    cases h0 : decide ((B.length : Int) = 0)
    · have h0 : B.length ≠ 0 := by have := of_decide_eq_false h0; omega
      have hp : prB N B = decide (((B.getD 0 []).length : Int) = N) := by
        unfold prB
        rw [decide_eq_false h0, Bool.false_or]
        by_cases h1 : (B.getD 0 []).length = N
        · rw [decide_eq_true h1, decide_eq_true (by omega)]
        · rw [decide_eq_false h1, decide_eq_false (by omega)]
      rw [hp]
      refine WQ.fin T false tok (by rfl) (by rfl) (by exact byObl) ?_
      exact WP.ret (Ends.val (by rfl) (by exact byObl) (by rfl) (by exact sc_t2 trivial trivial))
    · have h0 : B.length = 0 := by have := of_decide_eq_true h0; omega
      have hp : prB N B = true := by unfold prB; rw [decide_eq_true h0]; rfl
      rw [hp]
      refine WQ.fin T false tok (by rfl) (by rfl) (by exact byObl) ?_
      exact WP.ret (Ends.val (by rfl) (by exact byObl) (by rfl) (by exact sc_t2 trivial trivial))

theorem law_IsPrimitive (n : Int) (b w : Nat → Nat) (_hn : -9223372036854775808 ≤ n ∧ n ≤ 9223372036854775807) (hb : ∀ i, b i < 256) (hw : ∀ i, w i < 256) : FnP Try.prog 6 [ds_ n b w] (.b true) := by
  have h1 := specPrim_fn n (lim b) (lim w) (lim_lt hb) (lim_lt hw)
  have h2 := implPrim_fn n (lim b) (lim w) (lim_lt hb) (lim_lt hw)
  obtain ⟨r, c, e⟩ := prR_form n (lim b) (lim w)
  rw [e] at h1 h2
  refine FnS.into T tok Try.func6 (by rfl) rfl rfl rfl (by simp) ?_
  refine WP.rs T false tok (by rfl) (by exact byObl) ?_
  refine WP.rw ?_
  refine WPL.run T false 1 tok (by rfl) (by exact byObl) ?_
  refine WPL.call (toDessin_fn n b w) (by rfl) (by rfl) (by rfl) (by simp [Sc, sc_pl, sc_ds, pl_ne, ds_ne]) ?_
  refine WPL.call (h1) (by rfl) (by rfl) (by rfl) (by simp [Sc, sc_pl, sc_ds, pl_ne, ds_ne]) ?_
  refine WPL.fin T false tok (by rfl) (by exact byObl) ?_
  refine WP.rw ?_
  refine WPL.run T false 1 tok (by rfl) (by exact byObl) ?_
  refine WPL.call (toDessin_fn n b w) (by rfl) (by rfl) (by rfl) (by simp [Sc, sc_pl, sc_ds, pl_ne, ds_ne]) ?_
  refine WPL.call (h2) (by rfl) (by rfl) (by rfl) (by simp [Sc, sc_pl, sc_ds, pl_ne, ds_ne]) ?_
  refine WPL.fin T false tok (by rfl) (by exact byObl) ?_
  refine WP.seq ?_
  refine WP.rw ?_
  refine WPL.run T false 3 tok (by rfl) (by exact byObl) ?_
  rw [show (r == r) = true from by cases r <;> rfl]
  refine WPL.fin T false tok (by rfl) (by exact byObl) ?_
  refine WP.cond (by rfl) (fun h => ?_) (fun h => WP.skip ?_)
  · simp at h
  · refine WP.rs T false tok (by rfl) (by exact byObl) ?_
    exact WP.ret (Ends.val (by rfl) (by exact byObl) (by rfl) (by trivial))

end Go.Proofs.Ytaafldclbdlgfaa
