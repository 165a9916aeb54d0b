import Derived.Test.YtaafldclbdlgfaaL3
import Derived.Test.YtaafldclbdlgfaaD36
import Derived.Test.YtaafldclbdlgfaaX102
import Derived.Test.YtaafldclbdlgfaaL35
import Derived.Test.YtaafldclbdlgfaaX10
import Derived.Test.YtaafldclbdlgfaaD31
import Derived.Test.YtaafldclbdlgfaaX9
import Derived.Test.YtaafldclbdlgfaaX121
/- Lists of numbers: compared, marked, held. -/
namespace Go.Proofs.Ytaafldclbdlgfaa
open Go.RowKit DM
set_option linter.unusedSimpArgs false
set_option linter.unusedVariables false
set_option maxRecDepth 100000
set_option maxHeartbeats 1000000

theorem eqS_fn (n : Nat) (g : Nat → Int) (hn : n ≤ 4294967296) : FnR Try.prog 15 [.sl 0 0 n 1, .sl 1 0 n 1] [.ro n 1 (fun t => .i .i64 (g t)), .ro n 1 (fun t => .i .i64 (g t))] (.b true) := by
  refine FnS.into T tok Try.func15 (by rfl) rfl rfl rfl (by simp) ?_
  refine WP.rs T false tok (by rfl) (by exact byObl) ?_
  refine WP.seq ?_
  refine WP.rs T false tok (by rfl) (by exact byObl) ?_
  refine WP.cond (by rfl) (fun h => ?_) (fun h => WP.skip ?_)
  · simp at h
  refine WP.seq ?_
  refine WP.rs T false tok (by rfl) (by exact byObl) ?_
  refine WP.block ?_
  refine WP.loopH (⟨fun k : Nat => k ≤ n, fun k => [(0, .sl 0 0 n 1), (1, .sl 1 0 n 1), (5, .i .i64 (k : Int))], fun k => [.ro n 1 (fun t => .i .i64 (g t)), .ro n 1 (fun t => .i .i64 (g t))], fun k => n - k⟩) (0) (Nat.zero_le _) (Ghost.cut (Nat.le_refl _) (tauOf [0, 1]) _ _ (Taken.of [0, 1] (LeAll.cons (by rfl) (by first | with_reducible exact Root.Le.refl _ | with_reducible exact le_dead | (skip; done) | exact byLeq) (by exact byCon) (LeAll.cons (by rfl) (by first | with_reducible exact Root.Le.refl _ | with_reducible exact le_dead | (skip; done) | exact byLeq) (by exact byCon) (trivial))) rfl rfl) (by exact bySlots)) ?_
  intro k hk
  dsimp only at hk
  dsimp only [Hd.at]
  refine WP.seq ?_
  refine WP.rs T false tok (by rfl) (by exact byObl) ?_
  refine WP.cond (by rfl) (fun hc => WP.skip ?_) (fun hc => WP.exit ?_)
  · have hk : k < n := by have := of_decide_eq_true hc; omega
    clear hc
    refine WP.seq (WP.block ?_)
    refine WP.seq ?_
    refine WP.drawsQ (by kernel_rfl) (by kernel_rfl) ?_
    refine WQ.fin T false tok (by rfl) (by rfl) (by exact byObl) ?_
    refine WP.cond (by rfl) (fun h => ?_) (fun h => WP.skip ?_)
    · simp at h
    · refine WP.run T false tok (by rfl) (by exact byObl) ?_
      refine Again.next (k + 1) (Ghost.cut (Nat.le_refl _) (tauOf [0, 1]) _ _ (Taken.of [0, 1] (LeAll.cons (by rfl) (by first | with_reducible exact Root.Le.refl _ | with_reducible exact le_dead | (skip; done) | exact byLeq) (by exact byCon) (LeAll.cons (by rfl) (by first | with_reducible exact Root.Le.refl _ | with_reducible exact le_dead | (skip; done) | exact byLeq) (by exact byCon) (trivial))) rfl rfl) (by exact bySlots)) (hk) (by dsimp only; omega)
  · refine WP.rs T false tok (by rfl) (by exact byObl) ?_
    exact WP.ret (Ends.val (by rfl) (by exact byObl) (by rfl) (by trivial))

/-- Where the j-th list's marks begin. -/
def offF (ln : Nat → Nat) (k : Nat) : Nat → Nat
  | 0 => k
  | j + 1 => offF ln k j + ln j

theorem offF_mono (ln : Nat → Nat) (k : Nat) {i j : Nat} (h : i ≤ j) : offF ln k i ≤ offF ln k j := by
  induction j with
  | zero => have : i = 0 := by omega
            subst this; exact Nat.le_refl _
  | succ j ih =>
    by_cases e : i = j + 1
    · subst e; exact Nat.le_refl _
    · have := ih (by omega)
      simp only [offF]; omega

theorem offF_le (ln : Nat → Nat) (k b : Nat) : ∀ n, (∀ j, j < n → ln j ≤ b) → offF ln k n ≤ k + n * b
  | 0, _ => by simp [offF]
  | n + 1, h => by
    have h1 := offF_le ln k b n (fun j hj => h j (by omega))
    have h2 := h n (by omega)
    simp only [offF]
    rw [Nat.succ_mul]; omega

def mkI (F : Nat → Int) (k i : Nat) (j : Nat) : Int := if j < i then ((k + j : Nat) : Int) else F j

theorem mkI_step (F : Nat → Int) (k i : Nat) : up (mkI F k i) i ((k + i : Nat) : Int) = mkI F k (i + 1) := by
  funext j
  unfold mkI up
  by_cases h : j = i
  · subst h; rw [if_pos rfl, if_pos (Nat.lt_succ_self _)]
  · rw [if_neg h]
    by_cases h2 : j < i
    · simp [h2, show j < i + 1 by omega]
    · simp [h2, show ¬ j < i + 1 by omega]
theorem mkI_zero (F : Nat → Int) (k : Nat) : mkI F k 0 = F := by funext j; unfold mkI; rw [if_neg (Nat.not_lt_zero _)]

theorem markS_fn (n k : Nat) (F : Nat → Int) (hB : k + n ≤ 9223372036854775807) (hn : n ≤ 4294967296) : FnS Try.prog 17 [.sl 0 0 n 1, .i .i64 k] [.row 2 n 1 (fun j => .i .i64 (F j))] (fun r m' => r = .i .i64 ((k + n : Nat) : Int) ∧ m' = [.row 2 n 1 (fun j => .i .i64 ((k + j : Nat) : Int))]) := by
  refine FnS.intoN T tok Try.func17 (by rfl) rfl rfl rfl (by simp) ?_
  refine WP.rs T false tok (by rfl) (by exact byObl) ?_
  refine WP.seq ?_
  refine WP.rs T false tok (by rfl) (by exact byObl) ?_
  refine WP.block ?_
  refine WP.loopH (⟨fun i : Nat => i ≤ n, fun i => [(0, .sl 0 0 n 1), (1, .i .i64 ((k + i : Nat) : Int)), (5, .i .i64 (i : Int))], fun i => [.row 2 n 1 (fun j => .i .i64 (mkI F k i j))], fun i => n - i⟩) (0) (Nat.zero_le _) (Ghost.cut (Nat.le_refl _) (tauOf [0]) _ _ (Taken.of [0] (LeAll.cons (by rfl) (by first | with_reducible exact Root.Le.refl _ | with_reducible exact le_dead | ((rw [mkI_zero]; exact Root.Le.refl _)) | exact byLeq) (by exact byCon) (trivial)) rfl rfl) (by exact bySlots)) ?_
  intro i hi
  dsimp only at hi
  dsimp only [Hd.at]
  refine WP.seq ?_
  refine WP.rs T false tok (by rfl) (by exact byObl) ?_
  refine WP.cond (by rfl) (fun hc => WP.skip ?_) (fun hc => WP.exit ?_)
  · have hi : i < n := by have := of_decide_eq_true hc; omega
    clear hc
    refine WP.seq (WP.block ?_)
    refine WP.rs T false tok (by rfl) (by exact byObl) ?_
    refine WP.run T false tok (by rfl) (by exact byObl) ?_
    refine WP.run T false tok (by rfl) (by exact byObl) ?_
    refine Again.next (i + 1) (Ghost.cut (Nat.le_refl _) (tauOf [0]) _ _ (Taken.of [0] (LeAll.cons (by rfl) (by first | with_reducible exact Root.Le.refl _ | with_reducible exact le_dead | (exact le_row (Nat.le_refl _) (fun j hj => congrFun (show (fun j => Dat.i .i64 (mkI F k (i + 1) j)) = fup (fun j => .i .i64 (mkI F k i j)) i (.i .i64 ((k + i : Nat) : Int)) from by rw [fup_i64, mkI_step]) j)) | exact byLeq) (by exact byCon) (trivial)) rfl rfl) (by exact bySlots)) (hi) (by dsimp only; omega)
  · have hi : i = n := by have := of_decide_eq_false hc; omega
    subst hi
    refine WP.rs T false tok (by rfl) (by exact byObl) ?_
    exact WP.ret (Ends.new [0] (by rfl) (by exact byObl) (LeAll.cons (by rfl) (by first | with_reducible exact Root.Le.refl _ | with_reducible exact le_dead | (exact le_row (Nat.le_refl _) (fun j hj => by unfold mkI; rw [if_pos hj])) | exact byLeq) (by exact byCon) (trivial)) rfl rfl (⟨rfl, trivial⟩) (trivial))

theorem heldS_fn (n k : Nat) (hB : k + n ≤ 9223372036854775807) (hn : n ≤ 4294967296) : FnR Try.prog 19 [.sl 0 0 n 1, .i .i64 k] [.ro n 1 (fun j => .i .i64 ((k + j : Nat) : Int))] (.i .i64 ((k + n : Nat) : Int)) := by
  refine FnS.into T tok Try.func19 (by rfl) rfl rfl rfl (by simp) ?_
  refine WP.rs T false tok (by rfl) (by exact byObl) ?_
  refine WP.seq ?_
  refine WP.rs T false tok (by rfl) (by exact byObl) ?_
  refine WP.block ?_
  refine WP.loopH (⟨fun i : Nat => i ≤ n, fun i => [(0, .sl 0 0 n 1), (1, .i .i64 ((k + i : Nat) : Int)), (5, .i .i64 (i : Int))], fun i => [.ro n 1 (fun j => .i .i64 ((k + j : Nat) : Int))], fun i => n - i⟩) (0) (Nat.zero_le _) (Ghost.cut (Nat.le_refl _) (tauOf [0]) _ _ (Taken.of [0] (LeAll.cons (by rfl) (by first | with_reducible exact Root.Le.refl _ | with_reducible exact le_dead | (skip; done) | exact byLeq) (by exact byCon) (trivial)) rfl rfl) (by exact bySlots)) ?_
  intro i hi
  dsimp only at hi
  dsimp only [Hd.at]
  refine WP.seq ?_
  refine WP.rs T false tok (by rfl) (by exact byObl) ?_
  refine WP.cond (by rfl) (fun hc => WP.skip ?_) (fun hc => WP.exit ?_)
  · have hi : i < n := by have := of_decide_eq_true hc; omega
    clear hc
    refine WP.seq (WP.block ?_)
    refine WP.seq ?_
    refine WP.rs T false tok (by rfl) (by exact byObl) ?_
    refine WP.cond (by rfl) (fun h => ?_) (fun h => WP.skip ?_)
    · simp [addrAt0] at h
    · refine WP.run T false tok (by rfl) (by exact byObl) ?_
      refine WP.run T false tok (by rfl) (by exact byObl) ?_
      refine Again.next (i + 1) (Ghost.cut (Nat.le_refl _) (tauOf [0]) _ _ (Taken.of [0] (LeAll.cons (by rfl) (by first | with_reducible exact Root.Le.refl _ | with_reducible exact le_dead | (skip; done) | exact byLeq) (by exact byCon) (trivial)) rfl rfl) (by exact bySlots)) (hi) (by dsimp only; omega)
  · have hi : i = n := by have := of_decide_eq_false hc; omega
    subst hi
    refine WP.rs T false tok (by rfl) (by exact byObl) ?_
    exact WP.ret (Ends.val (by rfl) (by exact byObl) (by rfl) (by trivial))

theorem heldSS_fn (n : Nat) (ln : Nat → Nat) (k : Nat) (hB : offF ln k n ≤ 9223372036854775807) (hn : n ≤ 4294967296) (hl : ∀ j, j < n → ln j ≤ 4294967296) : FnR Try.prog 18 [.sl 0 0 n 1, .i .i64 k] [.ro n 1 (fun j => .ow 2 (ln j) 1 (fun t => .i .i64 ((offF ln k j + t : Nat) : Int)))] (.i .i64 ((offF ln k n : Nat) : Int)) := by
  refine FnS.into T tok Try.func18 (by rfl) rfl rfl rfl (by simp) ?_
  refine WP.rs T false tok (by rfl) (by exact byObl) ?_
  refine WP.seq ?_
  refine WP.rs T false tok (by rfl) (by exact byObl) ?_
  refine WP.block ?_
  refine WP.loopH (⟨fun i : Nat => i ≤ n, fun i => [(0, .sl 0 0 n 1), (1, .i .i64 ((offF ln k i : Nat) : Int)), (5, .i .i64 (i : Int))], fun i => [.ro n 1 (fun j => .ow 2 (ln j) 1 (fun t => .i .i64 ((offF ln k j + t : Nat) : Int)))], fun i => n - i⟩) (0) (Nat.zero_le _) (Ghost.cut (Nat.le_refl _) (tauOf [0]) _ _ (Taken.of [0] (LeAll.cons (by rfl) (by first | with_reducible exact Root.Le.refl _ | with_reducible exact le_dead | (skip; done) | exact byLeq) (by exact byCon) (trivial)) rfl rfl) (by exact bySlots)) ?_
  intro i hi
  dsimp only at hi
  dsimp only [Hd.at]
  refine WP.seq ?_
  refine WP.rs T false tok (by rfl) (by exact byObl) ?_
  refine WP.cond (by rfl) (fun hc => WP.skip ?_) (fun hc => WP.exit ?_)
  · have hi : i < n := by have := of_decide_eq_true hc; omega
    clear hc
    have hm := offF_mono ln k (show i + 1 ≤ n from hi)
    simp only [offF] at hm
    refine WP.seq (WP.block ?_)
    refine WP.rw ?_
    refine WPL.run T false 5 tok (by rfl) (by exact byObl) ?_
    refine WPL.callR [1] (heldS_fn (ln i) (offF ln k i) (by omega) (hl i hi)) (by rfl) (LeAll.cons (by rfl) (by first | with_reducible exact Root.Le.refl _ | with_reducible exact le_dead | (skip; done) | exact byLeq) (by exact byCon) (trivial)) (by exact byArgs) (by rfl) (by rfl) (by simp [Sc, sc_pl, sc_ds]) ?_
    refine WPL.fin T false tok (by rfl) (by exact byObl) ?_
    refine WP.rs T false tok (by rfl) (by exact byObl) ?_
    refine WP.cond (by rfl) (fun h => ?_) (fun h => WP.skip ?_)
    · simp at h; omega
    · refine WP.run T false tok (by rfl) (by exact byObl) ?_
      refine Again.next (i + 1) (Ghost.cut (Nat.le_refl _) (tauOf [0]) _ _ (Taken.of [0] (LeAll.cons (by rfl) (by first | with_reducible exact Root.Le.refl _ | with_reducible exact le_dead | (skip; done) | exact byLeq) (by exact byCon) (trivial)) rfl rfl) (by exact bySlots)) (hi) (by dsimp only; omega)
  · have hi : i = n := by have := of_decide_eq_false hc; omega
    subst hi
    refine WP.rs T false tok (by rfl) (by exact byObl) ?_
    exact WP.ret (Ends.val (by rfl) (by exact byObl) (by rfl) (by trivial))

def mkSS (ln : Nat → Nat) (g : Nat → Nat → Int) (k i j t : Nat) : Int := if j < i then ((offF ln k j + t : Nat) : Int) else g j t

theorem mkSS_step (ln : Nat → Nat) (g : Nat → Nat → Int) (k i : Nat) (j : Nat) {x : Dat} : Dat.ow 2 (ln j) 1 (fun t => .i .i64 (mkSS ln g k (i + 1) j t)) = fup (fup (fun j => .ow 2 (ln j) 1 (fun t => .i .i64 (mkSS ln g k i j t))) i x) i (.ow 2 (ln i) 1 (fun t => .i .i64 ((offF ln k i + t : Nat) : Int))) j := by
  by_cases h : j = i
  · subst h
    rw [fup_same]
    simp only [mkSS, if_pos (Nat.lt_succ_self _)]
  · rw [fup_ne _ _ h, fup_ne _ _ h]
    have e : ∀ t, mkSS ln g k (i + 1) j t = mkSS ln g k i j t := fun t => by
      unfold mkSS
      by_cases h2 : j < i
      · rw [if_pos h2, if_pos (by omega)]
      · rw [if_neg h2, if_neg (by omega)]
    simp only [e]

theorem markSS_fn (n : Nat) (ln : Nat → Nat) (g : Nat → Nat → Int) (k : Nat) (hB : offF ln k n ≤ 9223372036854775807) (hn : n ≤ 4294967296) (hl : ∀ j, j < n → ln j ≤ 4294967296) : FnS Try.prog 16 [.sl 0 0 n 1, .i .i64 k] [.row 34 n 1 (fun j => .ow 2 (ln j) 1 (fun t => .i .i64 (g j t)))] (fun r m' => r = .i .i64 ((offF ln k n : Nat) : Int) ∧ m' = [.row 34 n 1 (fun j => .ow 2 (ln j) 1 (fun t => .i .i64 ((offF ln k j + t : Nat) : Int)))]) := by
  refine FnS.intoN T tok Try.func16 (by rfl) rfl rfl rfl (by simp) ?_
  refine WP.rs T false tok (by rfl) (by exact byObl) ?_
  refine WP.seq ?_
  refine WP.rs T false tok (by rfl) (by exact byObl) ?_
  refine WP.block ?_
  refine WP.loopH (⟨fun i : Nat => i ≤ n, fun i => [(0, .sl 0 0 n 1), (1, .i .i64 ((offF ln k i : Nat) : Int)), (5, .i .i64 (i : Int))], fun i => [.row 34 n 1 (fun j => .ow 2 (ln j) 1 (fun t => .i .i64 (mkSS ln g k i j t)))], fun i => n - i⟩) (0) (Nat.zero_le _) (Ghost.cut (Nat.le_refl _) (tauOf [0]) _ _ (Taken.of [0] (LeAll.cons (by rfl) (by first | with_reducible exact Root.Le.refl _ | with_reducible exact le_dead | (exact le_row (Nat.le_refl _) (fun j hj => rfl)) | exact byLeq) (by exact byCon) (trivial)) rfl rfl) (by exact bySlots)) ?_
  intro i hi
  dsimp only at hi
  dsimp only [Hd.at]
  refine WP.seq ?_
  refine WP.rs T false tok (by rfl) (by exact byObl) ?_
  refine WP.cond (by rfl) (fun hc => WP.skip ?_) (fun hc => WP.exit ?_)
  · have hi : i < n := by have := of_decide_eq_true hc; omega
    clear hc
    have hm := offF_mono ln k (show i + 1 ≤ n from hi)
    simp only [offF] at hm
    refine WP.seq (WP.block ?_)
    refine WP.region ?_
    refine WPL.run T false 5 tok (by rfl) (by exact byObl) ?_
    refine WPL.callN [1] (.i .i64 ((offF ln k i + ln i : Nat) : Int)) (markS_fn (ln i) (offF ln k i) (fun t => mkSS ln g k i i t) (by omega) (hl i hi)) (LeAll.cons (by rfl) (by first | with_reducible exact Root.Le.refl _ | with_reducible exact le_dead | (skip; done) | exact byLeq) (by exact byCon) (trivial)) (by rfl) (by rfl) (by exact byArgs) (by rfl) (by rfl) (by simp [Sc, sc_pl, sc_ds]) (by exact byAllc) (⟨rfl, trivial⟩) (by exact bySc) rfl ?_
    refine WPL.fin T false tok (by rfl) (by exact byObl) ?_
    refine WP.run T false tok (by rfl) (by exact byObl) ?_
    refine Again.step (Ghost.give 0 i 1 (by rfl) (hi) (fup_same _ _ _) rfl rfl (by rfl) (Nat.le_refl _)) ?_
    refine Again.next (i + 1) (Ghost.cut (Nat.le_refl _) (tauOf [0]) _ _ (Taken.of [0] (LeAll.cons (by rfl) (by first | with_reducible exact Root.Le.refl _ | with_reducible exact le_dead | (exact le_row (Nat.le_refl _) (fun j hj => mkSS_step ln g k i j)) | exact byLeq) (by exact byCon) (trivial)) rfl rfl) (by exact bySlots)) (hi) (by dsimp only; omega)
  · have hi : i = n := by have := of_decide_eq_false hc; omega
    subst hi
    refine WP.rs T false tok (by rfl) (by exact byObl) ?_
    exact WP.ret (Ends.new [0] (by rfl) (by exact byObl) (LeAll.cons (by rfl) (by first | with_reducible exact Root.Le.refl _ | with_reducible exact le_dead | (exact le_row (Nat.le_refl _) (fun j hj => by unfold mkSS; simp only [if_pos hj])) | exact byLeq) (by exact byCon) (trivial)) rfl rfl (⟨rfl, trivial⟩) (trivial))

theorem eqSS_nil : FnP Try.prog 14 [.ns, .ns] (.b true) := by
  refine FnS.into T tok Try.func14 (by rfl) rfl rfl rfl (by simp) ?_
  refine WP.rs T false tok (by rfl) (by exact byObl) ?_
  refine WP.seq ?_
  refine WP.rs T false tok (by rfl) (by exact byObl) ?_
  refine WP.cond (by rfl) (fun h => ?_) (fun h => WP.skip ?_)
  · simp at h
  refine WP.seq ?_
  refine WP.rs T false tok (by rfl) (by exact byObl) ?_
  refine WP.block ?_
  refine WP.loopH (⟨fun _ : Nat => True, fun _ => [(0, .ns), (1, .ns), (5, .i .i64 0)], fun _ => [], fun _ => 0⟩) (0) (trivial) (Ghost.cut (Nat.le_refl _) (tauOf []) _ _ (Taken.of [] (trivial) rfl rfl) (by exact bySlots)) ?_
  intro k hk
  dsimp only [Hd.at]
  refine WP.seq ?_
  refine WP.rs T false tok (by rfl) (by exact byObl) ?_
  refine WP.cond (by rfl) (fun hc => WP.skip ?_) (fun hc => WP.exit ?_)
  · simp at hc
  · refine WP.rs T false tok (by rfl) (by exact byObl) ?_
    exact WP.ret (Ends.val (by rfl) (by exact byObl) (by rfl) (by trivial))

theorem markSS_nil (k : Nat) : FnP Try.prog 16 [.ns, .i .i64 k] (.i .i64 k) := by
  refine FnS.into T tok Try.func16 (by rfl) rfl rfl rfl (by simp) ?_
  refine WP.rs T false tok (by rfl) (by exact byObl) ?_
  refine WP.seq ?_
  refine WP.rs T false tok (by rfl) (by exact byObl) ?_
  refine WP.block ?_
  refine WP.loopH (⟨fun _ : Nat => True, fun _ => [(0, .ns), (1, .i .i64 k), (5, .i .i64 0)], fun _ => [], fun _ => 0⟩) (0) (trivial) (Ghost.cut (Nat.le_refl _) (tauOf []) _ _ (Taken.of [] (trivial) rfl rfl) (by exact bySlots)) ?_
  intro j hj
  dsimp only [Hd.at]
  refine WP.seq ?_
  refine WP.rs T false tok (by rfl) (by exact byObl) ?_
  refine WP.cond (by rfl) (fun hc => WP.skip ?_) (fun hc => WP.exit ?_)
  · simp at hc
  · refine WP.rs T false tok (by rfl) (by exact byObl) ?_
    exact WP.ret (Ends.val (by rfl) (by exact byObl) (by rfl) (by trivial))

theorem heldSS_nil (k : Nat) : FnP Try.prog 18 [.ns, .i .i64 k] (.i .i64 k) := by
  refine FnS.into T tok Try.func18 (by rfl) rfl rfl rfl (by simp) ?_
  refine WP.rs T false tok (by rfl) (by exact byObl) ?_
  refine WP.seq ?_
  refine WP.rs T false tok (by rfl) (by exact byObl) ?_
  refine WP.block ?_
  refine WP.loopH (⟨fun _ : Nat => True, fun _ => [(0, .ns), (1, .i .i64 k), (5, .i .i64 0)], fun _ => [], fun _ => 0⟩) (0) (trivial) (Ghost.cut (Nat.le_refl _) (tauOf []) _ _ (Taken.of [] (trivial) rfl rfl) (by exact bySlots)) ?_
  intro j hj
  dsimp only [Hd.at]
  refine WP.seq ?_
  refine WP.rs T false tok (by rfl) (by exact byObl) ?_
  refine WP.cond (by rfl) (fun hc => WP.skip ?_) (fun hc => WP.exit ?_)
  · simp at hc
  · refine WP.rs T false tok (by rfl) (by exact byObl) ?_
    exact WP.ret (Ends.val (by rfl) (by exact byObl) (by rfl) (by trivial))

theorem eqS_nil : FnP Try.prog 15 [.ns, .ns] (.b true) := by
  refine FnS.into T tok Try.func15 (by rfl) rfl rfl rfl (by simp) ?_
  refine WP.rs T false tok (by rfl) (by exact byObl) ?_
  refine WP.seq ?_
  refine WP.rs T false tok (by rfl) (by exact byObl) ?_
  refine WP.cond (by rfl) (fun h => ?_) (fun h => WP.skip ?_)
  · simp at h
  refine WP.seq ?_
  refine WP.rs T false tok (by rfl) (by exact byObl) ?_
  refine WP.block ?_
  refine WP.loopH (⟨fun _ : Nat => True, fun _ => [(0, .ns), (1, .ns), (5, .i .i64 0)], fun _ => [], fun _ => 0⟩) (0) (trivial) (Ghost.cut (Nat.le_refl _) (tauOf []) _ _ (Taken.of [] (trivial) rfl rfl) (by exact bySlots)) ?_
  intro k hk
  dsimp only [Hd.at]
  refine WP.seq ?_
  refine WP.rs T false tok (by rfl) (by exact byObl) ?_
  refine WP.cond (by rfl) (fun hc => WP.skip ?_) (fun hc => WP.exit ?_)
  · simp at hc
  · refine WP.rs T false tok (by rfl) (by exact byObl) ?_
    exact WP.ret (Ends.val (by rfl) (by exact byObl) (by rfl) (by trivial))

theorem markS_nil (k : Nat) : FnP Try.prog 17 [.ns, .i .i64 k] (.i .i64 k) := by
  refine FnS.into T tok Try.func17 (by rfl) rfl rfl rfl (by simp) ?_
  refine WP.rs T false tok (by rfl) (by exact byObl) ?_
  refine WP.seq ?_
  refine WP.rs T false tok (by rfl) (by exact byObl) ?_
  refine WP.block ?_
  refine WP.loopH (⟨fun _ : Nat => True, fun _ => [(0, .ns), (1, .i .i64 k), (5, .i .i64 0)], fun _ => [], fun _ => 0⟩) (0) (trivial) (Ghost.cut (Nat.le_refl _) (tauOf []) _ _ (Taken.of [] (trivial) rfl rfl) (by exact bySlots)) ?_
  intro j hj
  dsimp only [Hd.at]
  refine WP.seq ?_
  refine WP.rs T false tok (by rfl) (by exact byObl) ?_
  refine WP.cond (by rfl) (fun hc => WP.skip ?_) (fun hc => WP.exit ?_)
  · simp at hc
  · refine WP.rs T false tok (by rfl) (by exact byObl) ?_
    exact WP.ret (Ends.val (by rfl) (by exact byObl) (by rfl) (by trivial))

theorem heldS_nil (k : Nat) : FnP Try.prog 19 [.ns, .i .i64 k] (.i .i64 k) := by
  refine FnS.into T tok Try.func19 (by rfl) rfl rfl rfl (by simp) ?_
  refine WP.rs T false tok (by rfl) (by exact byObl) ?_
  refine WP.seq ?_
  refine WP.rs T false tok (by rfl) (by exact byObl) ?_
  refine WP.block ?_
  refine WP.loopH (⟨fun _ : Nat => True, fun _ => [(0, .ns), (1, .i .i64 k), (5, .i .i64 0)], fun _ => [], fun _ => 0⟩) (0) (trivial) (Ghost.cut (Nat.le_refl _) (tauOf []) _ _ (Taken.of [] (trivial) rfl rfl) (by exact bySlots)) ?_
  intro j hj
  dsimp only [Hd.at]
  refine WP.seq ?_
  refine WP.rs T false tok (by rfl) (by exact byObl) ?_
  refine WP.cond (by rfl) (fun hc => WP.skip ?_) (fun hc => WP.exit ?_)
  · simp at hc
  · refine WP.rs T false tok (by rfl) (by exact byObl) ?_
    exact WP.ret (Ends.val (by rfl) (by exact byObl) (by rfl) (by trivial))

end Go.Proofs.Ytaafldclbdlgfaa

/- BlocksOf and IsPrimitive: both sides, and the laws. -/
namespace Go.Proofs.Ytaafldclbdlgfaa
open Go.RowKit DM
set_option linter.unusedSimpArgs false
set_option linter.unusedVariables false
set_option maxRecDepth 100000
set_option maxHeartbeats 1000000

theorem eqSR_fn (n : Nat) (ln : Nat → Nat) (g : Nat → Nat → Int) (hn : n ≤ 4294967296) (hl : ∀ j, j < n → ln j ≤ 4294967296) : FnR Try.prog 14 [.sl 0 0 n 1, .sl 1 0 n 1] [.ro n 1 (fun j => .ow 2 (ln j) 1 (fun t => .i .i64 (g j t))), .ro n 1 (fun j => .ow 0 (ln j) 1 (fun t => .i .i64 (g j t)))] (.b true) := by
  refine FnS.into T tok Try.func14 (by rfl) rfl rfl rfl (by simp) ?_
  refine WP.rs T false tok (by rfl) (by exact byObl) ?_
  refine WP.seq ?_
  refine WP.rs T false tok (by rfl) (by exact byObl) ?_
  refine WP.cond (by rfl) (fun h => ?_) (fun h => WP.skip ?_)
  · simp at h
  refine WP.seq ?_
  refine WP.rs T false tok (by rfl) (by exact byObl) ?_
  refine WP.block ?_
  refine WP.loopH (⟨fun k : Nat => k ≤ n, fun k => [(0, .sl 0 0 n 1), (1, .sl 1 0 n 1), (5, .i .i64 (k : Int))], fun k => [.ro n 1 (fun j => .ow 2 (ln j) 1 (fun t => .i .i64 (g j t))), .ro n 1 (fun j => .ow 0 (ln j) 1 (fun t => .i .i64 (g j t)))], fun k => n - k⟩) (0) (Nat.zero_le _) (Ghost.cut (Nat.le_refl _) (tauOf [0, 1]) _ _ (Taken.of [0, 1] (LeAll.cons (by rfl) (by first | with_reducible exact Root.Le.refl _ | with_reducible exact le_dead | (skip; done) | exact byLeq) (by exact byCon) (LeAll.cons (by rfl) (by first | with_reducible exact Root.Le.refl _ | with_reducible exact le_dead | (skip; done) | exact byLeq) (by exact byCon) (trivial))) rfl rfl) (by exact bySlots)) ?_
  intro k hk
  dsimp only at hk
  dsimp only [Hd.at]
  refine WP.seq ?_
  refine WP.rs T false tok (by rfl) (by exact byObl) ?_
  refine WP.cond (by rfl) (fun hc => WP.skip ?_) (fun hc => WP.exit ?_)
  · have hk : k < n := by have := of_decide_eq_true hc; omega
    clear hc
    refine WP.seq (WP.block ?_)
    refine WP.seq ?_
    refine WP.drawsQ (by kernel_rfl) (by kernel_rfl) ?_
    refine WQ.run T false 8 tok (by rfl) (by rfl) (by exact byObl) ?_
    refine WQ.callR [2, 3] (eqS_fn (ln k) (g k) (hl k hk)) (by rfl) (LeAll.cons (by rfl) (by first | with_reducible exact Root.Le.refl _ | with_reducible exact le_dead | (skip; done) | exact byLeq) (by exact byCon) (LeAll.cons (by rfl) (by first | with_reducible exact Root.Le.refl _ | with_reducible exact le_dead | (skip; done) | exact byLeq) (by exact byCon) (trivial))) (by exact byArgs) (by rfl) (by rfl) (by simp [Sc, sc_pl, sc_ds]) (⟨trivial, trivial, trivial⟩) ?_
    refine WQ.fin T false tok (by rfl) (by rfl) (by exact byObl) ?_
    refine WP.cond (by rfl) (fun h => ?_) (fun h => WP.skip ?_)
    · cases h
    · refine WP.run T false tok (by rfl) (by exact byObl) ?_
      refine Again.next (k + 1) (Ghost.cut (Nat.le_refl _) (tauOf [0, 1]) _ _ (Taken.of [0, 1] (LeAll.cons (by rfl) (by first | with_reducible exact Root.Le.refl _ | with_reducible exact le_dead | (skip; done) | exact byLeq) (by exact byCon) (LeAll.cons (by rfl) (by first | with_reducible exact Root.Le.refl _ | with_reducible exact le_dead | (skip; done) | exact byLeq) (by exact byCon) (trivial))) rfl rfl) (by exact bySlots)) (hk) (by dsimp only; omega)
  · refine WP.rs T false tok (by rfl) (by exact byObl) ?_
    exact WP.ret (Ends.val (by rfl) (by exact byObl) (by rfl) (by trivial))

end Go.Proofs.Ytaafldclbdlgfaa
