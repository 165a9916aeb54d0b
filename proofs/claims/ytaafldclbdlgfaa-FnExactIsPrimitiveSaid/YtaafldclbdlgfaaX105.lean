import Derived.Test.YtaafldclbdlgfaaX100
import Derived.Test.YtaafldclbdlgfaaL36
import Derived.Test.YtaafldclbdlgfaaX31
import Derived.Test.YtaafldclbdlgfaaX9
import Derived.Test.YtaafldclbdlgfaaD34
/- The reference's comparing of lists, and its BlocksOf. -/
namespace Go.Proofs.Ytaafldclbdlgfaa
open Go.RowKit DM
set_option linter.unusedSimpArgs false
set_option linter.unusedVariables false
set_option maxRecDepth 100000
set_option maxHeartbeats 1000000

theorem cmpI_nat {a b : Nat} : (a < b → cmpI a b = -1) ∧ (b < a → cmpI a b = 1) ∧ (a = b → cmpI a b = 0) := by
  unfold cmpI
  refine ⟨fun h => ?_, fun h => ?_, fun h => ?_⟩
  · rw [if_pos (by omega)]
  · rw [if_neg (by omega), if_pos (by omega)]
  · rw [if_neg (by omega), if_neg (by omega)]

theorem l03Less_fn (l k : List Nat) (hl : l.length ≤ 65536) (hk : k.length ≤ 65536) : FnR Try.prog 42 [.sl 0 0 l.length 1, .sl 1 0 k.length 1] [.ro l.length 1 (numsF l), .ro k.length 1 (numsF k)] (.i .i64 (lexL l k)) := by
  refine FnS.into T tok Try.func42 (by rfl) rfl rfl rfl (by simp) ?_
  refine WP.rs T false tok (by rfl) (by exact byObl) ?_
  refine WP.seq ?_
  refine WP.rs T false tok (by rfl) (by exact byObl) ?_
  refine WP.block ?_
  refine WP.loopH (⟨fun i : Nat => i ≤ l.length ∧ i ≤ k.length ∧ lexL (l.drop i) (k.drop i) = lexL l k, fun i => [(0, .sl 0 0 l.length 1), (1, .sl 1 0 k.length 1), (4, .i .i64 0), (5, .i .i64 (i : Int))], fun i => [.ro l.length 1 (numsF l), .ro k.length 1 (numsF k)], fun i => l.length - i⟩) (0) (⟨Nat.zero_le _, Nat.zero_le _, rfl⟩) (Ghost.cut (Nat.le_refl _) (tauOf [0, 1]) _ _ (Taken.of [0, 1] (LeAll.cons (by rfl) (by first | with_reducible exact Root.Le.refl _ | with_reducible exact le_dead | (skip; done) | exact byLeq) (by exact byCon) (LeAll.cons (by rfl) (by first | with_reducible exact Root.Le.refl _ | with_reducible exact le_dead | (skip; done) | exact byLeq) (by exact byCon) (trivial))) rfl rfl) (by exact bySlots)) ?_
  intro i hi
  dsimp only at hi
  dsimp only [Hd.at]
  obtain ⟨hi1, hi2, hi3⟩ := hi
  refine WP.seq ?_
  refine WP.rw ?_
  refine WPL.run T false 4 tok (by rfl) (by exact byObl) ?_
  cases hc : decide ((i : Int) < l.length)
  · have hi : ¬ i < l.length := by have := of_decide_eq_false hc; omega
    refine WPL.fin T false tok (by rfl) (by exact byObl) ?_
    refine WP.cond (by rfl) (fun h => WP.skip ?_) (fun h => WP.exit ?_)
    · cases h
    refine WP.seq (WP.block ?_)
    refine WP.rs T false tok (by rfl) (by exact byObl) ?_
    refine WP.cond (by rfl) (fun h => ?_) (fun h => ?_)
    · have h := of_decide_eq_true h
      refine WP.rs T false tok (by rfl) (by exact byObl) ?_
      exact WP.ret (Ends.val (by rfl) (by exact byObl) (by show Dat.i .i64 (-1) = _; rw [← hi3, lex_end2 hi, if_pos (by omega)]) (by trivial))
    have h := of_decide_eq_false h
    refine WP.rs T false tok (by rfl) (by exact byObl) ?_
    refine WP.cond (by rfl) (fun h2 => ?_) (fun h2 => ?_)
    · have h2 := of_decide_eq_true h2
      omega
    refine WP.skip ?_
    refine WP.rs T false tok (by rfl) (by exact byObl) ?_
    exact WP.ret (Ends.val (by rfl) (by exact byObl) (by show Dat.i .i64 0 = _; rw [← hi3, lex_end2 hi, if_neg (by omega)]) (by trivial))
  · have hi : i < l.length := by have := of_decide_eq_true hc; omega
    refine WPL.fin T false tok (by rfl) (by exact byObl) ?_
    refine WP.cond (by rfl) (fun h => WP.skip ?_) (fun h => WP.exit ?_)
    · have hik : i < k.length := by have := of_decide_eq_true h; omega
      clear h
      have hla := lex_at hi hik
      refine WP.seq (WP.block ?_)
      refine WP.seq ?_
      refine WP.seq ?_
      refine WP.drawsQ (by kernel_rfl) (by kernel_rfl) ?_
      refine WQ.fin T false tok (by rfl) (by rfl) (by exact byObl) ?_
      refine WP.cond (by rfl) (fun h => ?_) (fun h => ?_)
      · have h : l.getD i 0 < k.getD i 0 := by have := of_decide_eq_true h; simp only [addrAt0, Int.toNat_natCast] at this; omega
        refine WP.rs T false tok (by rfl) (by exact byObl) ?_
        exact WP.ret (Ends.val (by rfl) (by exact byObl) (by show Dat.i .i64 (-1) = _; rw [← hi3, hla, cmpI_nat.1 h]; rfl) (by trivial))
      have h : ¬ l.getD i 0 < k.getD i 0 := by have := of_decide_eq_false h; simp only [addrAt0, Int.toNat_natCast] at this; omega
      refine WP.skip ?_
      refine WP.seq ?_
      refine WP.drawsQ (by kernel_rfl) (by kernel_rfl) ?_
      refine WQ.fin T false tok (by rfl) (by rfl) (by exact byObl) ?_
      refine WP.cond (by rfl) (fun h2 => ?_) (fun h2 => ?_)
      · have h2 : k.getD i 0 < l.getD i 0 := by have := of_decide_eq_true h2; simp only [addrAt0, Int.toNat_natCast] at this; omega
        refine WP.rs T false tok (by rfl) (by exact byObl) ?_
        exact WP.ret (Ends.val (by rfl) (by exact byObl) (by show Dat.i .i64 1 = _; rw [← hi3, hla, cmpI_nat.2.1 h2]; rfl) (by trivial))
      have h2 : ¬ k.getD i 0 < l.getD i 0 := by have := of_decide_eq_false h2; simp only [addrAt0, Int.toNat_natCast] at this; omega
      refine WP.skip ?_
      refine WP.run T false tok (by rfl) (by exact byObl) ?_
      refine Again.next (i + 1) (Ghost.cut (Nat.le_refl _) (tauOf [0, 1]) _ _ (Taken.of [0, 1] (LeAll.cons (by rfl) (by first | with_reducible exact Root.Le.refl _ | with_reducible exact le_dead | (skip; done) | exact byLeq) (by exact byCon) (LeAll.cons (by rfl) (by first | with_reducible exact Root.Le.refl _ | with_reducible exact le_dead | (skip; done) | exact byLeq) (by exact byCon) (trivial))) rfl rfl) (by exact bySlots)) (⟨hi, hik, by rw [← hi3, hla, if_pos (cmpI_nat.2.2 (by omega))]⟩) (by dsimp only; omega)
    · have hik : ¬ i < k.length := by have := of_decide_eq_false h; omega
      clear h
      refine WP.seq (WP.block ?_)
      refine WP.rs T false tok (by rfl) (by exact byObl) ?_
      refine WP.cond (by rfl) (fun h => ?_) (fun h => ?_)
      · have h := of_decide_eq_true h
        omega
      refine WP.rs T false tok (by rfl) (by exact byObl) ?_
      refine WP.cond (by rfl) (fun h2 => ?_) (fun h2 => ?_)
      · refine WP.rs T false tok (by rfl) (by exact byObl) ?_
        exact WP.ret (Ends.val (by rfl) (by exact byObl) (by show Dat.i .i64 1 = _; rw [← hi3, lex_end hi hik]) (by trivial))
      have h2 := of_decide_eq_false h2
      omega

theorem l03Before_fn (l k : List Nat) (hl : l.length ≤ 65536) (hk : k.length ≤ 65536) : FnR Try.prog 72 [.sl 0 0 l.length 1, .sl 1 0 k.length 1] [.ro l.length 1 (numsF l), .ro k.length 1 (numsF k)] (.i .i64 (befL l k)) := by
  refine FnS.into T tok Try.func72 (by rfl) rfl rfl rfl (by simp) ?_
  refine WP.rs T false tok (by rfl) (by exact byObl) ?_
  refine WP.seq ?_
  refine WP.rs T false tok (by rfl) (by exact byObl) ?_
  refine WP.cond (by rfl) (fun h => ?_) (fun h => WP.skip ?_)
  · have h : l.length ≠ k.length := by simp at h; omega
    refine WP.seq ?_
    refine WP.rs T false tok (by rfl) (by exact byObl) ?_
    refine WP.cond (by rfl) (fun h2 => ?_) (fun h2 => WP.skip ?_)
    · have h2 := of_decide_eq_true h2
      refine WP.rs T false tok (by rfl) (by exact byObl) ?_
      exact WP.ret (Ends.val (by rfl) (by exact byObl) (by show Dat.i .i64 (-1) = _; unfold befL; rw [if_pos (by omega)]) (by trivial))
    have h2 := of_decide_eq_false h2
    refine WP.rs T false tok (by rfl) (by exact byObl) ?_
    exact WP.ret (Ends.val (by rfl) (by exact byObl) (by show Dat.i .i64 1 = _; unfold befL; rw [if_neg (by omega), if_pos (by omega)]) (by trivial))
  have h : l.length = k.length := by simp at h; omega
  refine WP.rw ?_
  refine WPL.run T false 2 tok (by rfl) (by exact byObl) ?_
  refine WPL.callR [0, 1] (l03Less_fn l k hl hk) (by rfl) (LeAll.cons (by rfl) (by first | with_reducible exact Root.Le.refl _ | with_reducible exact le_dead | (skip; done) | exact byLeq) (by exact byCon) (LeAll.cons (by rfl) (by first | with_reducible exact Root.Le.refl _ | with_reducible exact le_dead | (skip; done) | exact byLeq) (by exact byCon) (trivial))) (by exact byArgs) (by rfl) (by rfl) (by simp [Sc, sc_pl, sc_ds]) ?_
  refine WPL.fin T false tok (by rfl) (by exact byObl) ?_
  exact WP.ret (Ends.val (by rfl) (by exact byObl) (by show Dat.i .i64 (lexL l k) = _; unfold befL; rw [if_neg (by omega), if_neg (by omega)]) (by trivial))

/-- Rows inside that are only read. -/
def owR (l : List Nat) : Dat := .ow 0 l.length 1 (numsF l)
def rowsR (L : List (List Nat)) (i : Nat) : Dat := owR (L.getD i [])
theorem noOwn_R (l : List Nat) : NoOwn (owR l) := ⟨rfl, fun _ _ => trivial⟩

theorem rowsR_ins (L : List (List Nat)) (own : List Nat) {a j : Nat} (ha : a ≤ L.length) (hj : j < L.length + 1) : rowsR (L.take a ++ own :: L.drop a) j = if j < a then rowsR L j else if j = a then owR own else rowsR L (j - 1) := by
  have hl : (L.take a).length = a := by rw [List.length_take]; omega
  unfold rowsR
  simp only [List.getD_eq_getElem?_getD]
  split
  · rename_i h
    rw [List.getElem?_append_left (by omega), List.getElem?_take_of_lt h]
  · rename_i h
    rw [List.getElem?_append_right (by omega), hl]
    split
    · rename_i h2; subst h2; rw [Nat.sub_self]; rfl
    · rename_i h2
      obtain ⟨d, rfl⟩ : ∃ d, j = a + d + 1 := ⟨j - a - 1, by omega⟩
      rw [show a + d + 1 - a = d + 1 by omega, List.getElem?_cons_succ, List.getElem?_drop]
      rfl

theorem ap_lt {n : Nat} {f : Nat → Dat} {off : Nat} {g : Nat → Dat} {i : Nat} (h : i < n) : apF n f off g i = f i := by unfold apF; rw [blt_true h]; rfl
theorem ap_ge {n : Nat} {f : Nat → Dat} {off : Nat} {g : Nat → Dat} {i : Nat} (h : ¬ i < n) : apF n f off g i = g (off + (i - n)) := by unfold apF; rw [blt_false h]; rfl

theorem ins_fun (B : List (List Nat)) (own : List Nat) {a : Nat} (ha : a ≤ B.length) (z X h : Nat → Dat) (o : Nat) (hX : X 0 = owR own) (hh : ∀ i, i < B.length - a → h (o + i) = rowsR B (a + i)) {j : Nat} (hj : j < B.length + 1) :
    rowsR (B.take a ++ own :: B.drop a) j = apF (0 + a) (apF 0 z 0 (rowsR B)) 0 (apF 1 X o h) j := by
  rw [rowsR_ins B own ha hj, Nat.zero_add]
  by_cases h1 : j < a
  · rw [if_pos h1, ap_lt h1, ap_ge (Nat.not_lt_zero _)]; simp
  · rw [if_neg h1, ap_ge h1, Nat.zero_add]
    by_cases h2 : j = a
    · rw [if_pos h2, ap_lt (by omega), show j - a = 0 by omega, hX]
    · rw [if_neg h2, ap_ge (by omega), hh _ (by omega)]
      congr 1; omega

theorem l03Blocks_fn (N : Nat) (b w : Nat → Nat) (hN : N ≤ 16) (hN1 : 1 ≤ N) (hb : ∀ i, i < N → b i < N) (hw : ∀ i, i < N → w i < N) : FnS Try.prog 50 [ds_ N b w] []
    (fun r m' => r = .sl 0 0 (blsL N b w (N - 1)).length 1 ∧ m' = [.row 34 (blsL N b w (N - 1)).length 1 (rowsR (blsL N b w (N - 1)))]) := by
  refine FnS.intoN T tok Try.func50 (by rfl) rfl rfl rfl (by simp) ?_
  refine WP.rs T false tok (by rfl) (by exact byObl) ?_
  refine WP.rs T false tok (by rfl) (by exact byObl) ?_
  refine WP.seq ?_
  refine WP.rs T false tok (by rfl) (by exact byObl) ?_
  refine WP.block ?_
  refine WP.loopH (⟨fun k : Nat => k + 1 ≤ N, fun k => [(1, .p 0 [] 0), (2, .ns), (3, .sl 1 0 (blsL N b w k).length 1), (4, .i .i64 ((k + 1 : Nat) : Int))], fun k => [.var (ds_ N b w), .row 34 (blsL N b w k).length 1 (rowsR (blsL N b w k))], fun k => N - k⟩) (0) (by omega) (Ghost.cut (Nat.le_refl _) (tauOf [0, 1]) _ _ (Taken.of [0, 1] (LeAll.cons (by rfl) (by first | with_reducible exact Root.Le.refl _ | with_reducible exact le_dead | (exact le_row (Nat.le_refl _) (fun j hj => absurd hj (Nat.not_lt_zero _))) | exact byLeq) (by exact byCon) (LeAll.cons (by rfl) (by first | with_reducible exact Root.Le.refl _ | with_reducible exact le_dead | (exact le_row (Nat.le_refl _) (fun j hj => absurd hj (Nat.not_lt_zero _))) | exact byLeq) (by exact byCon) (trivial))) rfl rfl) (by exact bySlots)) ?_
  intro k hk
  dsimp only at hk
  dsimp only [Hd.at]
  have hBl := bls_len N b w k
  have hBs : ∀ j, ((blsL N b w k).getD j []).length ≤ 65536 := fun j => by have := bls_small N b w k j; omega
  refine WP.seq ?_
  refine WP.rs T false tok (by rfl) (by exact byObl) ?_
  refine WP.cond (by rfl) (fun hc => WP.skip ?_) (fun hc => WP.exit ?_)
  · have hk : k + 1 < N := by have := of_decide_eq_true hc; omega
    clear hc
    have hown := l03Block_fn N b w 0 (k + 1) (by omega) hk hN hb hw
    have hol : (blkL N b w 0 (k + 1)).length ≤ 65536 := by have := blkL_len N b w 0 (k + 1); omega
    have hbls : blsL N b w (k + 1) = insL (blkL N b w 0 (k + 1)) (blsL N b w k) := rfl
    generalize blkL N b w 0 (k + 1) = own at *
    generalize blsL N b w k = B at *
    refine WP.seq (WP.block ?_)
    refine WP.rw ?_
    refine WPL.run T false 2 tok (by rfl) (by exact byObl) ?_
    refine WPL.callN [] (.sl 2 0 own.length 1) (hown) (trivial) (by rfl) (by rfl) (by exact byArgs) (by rfl) (by rfl) (by simp [Sc, sc_pl, sc_ds]) (by exact byAllc) (rfl) (by exact bySc) rfl ?_
    refine WPL.fin T false tok (by rfl) (by exact byObl) ?_
    refine WP.seqG ⟨lst [(1, .p 0 [] 0), (2, .ns), (3, .sl 1 0 B.length 1), (4, .i .i64 ((k + 1 : Nat) : Int)), (5, .sl 2 0 own.length 1), (6, .i .i64 ((atB own B : Nat) : Int))], [.var (ds_ N b w), .row 34 B.length 1 (rowsR B), .ro own.length 1 (numsF own)]⟩ ?_ ?_
    · refine WP.block ?_
      refine WP.loopH (⟨fun a : Nat => a ≤ B.length ∧ ∀ j, j < a → befL (B.getD j []) own < 0, fun a => [(1, .p 0 [] 0), (2, .ns), (3, .sl 1 0 B.length 1), (4, .i .i64 ((k + 1 : Nat) : Int)), (5, .sl 2 0 own.length 1), (6, .i .i64 (a : Int))], fun a => [.var (ds_ N b w), .row 34 B.length 1 (rowsR B), .ro own.length 1 (numsF own)], fun a => B.length - a⟩) (0) (⟨Nat.zero_le _, fun j hj => absurd hj (Nat.not_lt_zero _)⟩) (Ghost.cut (Nat.le_refl _) (tauOf [0, 1, 2]) _ _ (Taken.of [0, 1, 2] (LeAll.cons (by rfl) (by first | with_reducible exact Root.Le.refl _ | with_reducible exact le_dead | (skip; done) | exact byLeq) (by exact byCon) (LeAll.cons (by rfl) (by first | with_reducible exact Root.Le.refl _ | with_reducible exact le_dead | (skip; done) | exact byLeq) (by exact byCon) (LeAll.cons (by rfl) (by first | with_reducible exact Root.Le.refl _ | with_reducible exact le_dead | (skip; done) | exact byLeq) (by exact byCon) (trivial)))) rfl rfl) (by exact bySlots)) ?_
      intro a ha
      dsimp only at ha
      dsimp only [Hd.at]
      obtain ⟨ha1, ha2⟩ := ha
      refine WP.seq ?_
      refine WP.rw ?_
      refine WPL.run T false 4 tok (by rfl) (by exact byObl) ?_
      cases hc : decide ((a : Int) < B.length)
      · have ha : ¬ a < B.length := by have := of_decide_eq_false hc; omega
        refine WPL.fin T false tok (by rfl) (by exact byObl) ?_
        refine WP.cond (by rfl) (fun h => WP.skip ?_) (fun h => WP.exit ?_)
        · cases h
        have e := atB_eq ha1 ha2 (fun h => absurd h ha)
        rw [← e]
        exact Ghost.cut (Nat.le_refl _) (tauOf [0, 1, 2]) [(1, .p 0 [] 0), (2, .ns), (3, .sl 1 0 B.length 1), (4, .i .i64 ((k + 1 : Nat) : Int)), (5, .sl 2 0 own.length 1), (6, .i .i64 ((a : Nat) : Int))] [.var (ds_ N b w), .row 34 B.length 1 (rowsR B), .ro own.length 1 (numsF own)] (Taken.of [0, 1, 2] (LeAll.cons (by rfl) (by first | with_reducible exact Root.Le.refl _ | with_reducible exact le_dead | (skip; done) | exact byLeq) (by exact byCon) (LeAll.cons (by rfl) (by first | with_reducible exact Root.Le.refl _ | with_reducible exact le_dead | (skip; done) | exact byLeq) (by exact byCon) (LeAll.cons (by rfl) (by first | with_reducible exact Root.Le.refl _ | with_reducible exact le_dead | (skip; done) | exact byLeq) (by exact byCon) (trivial)))) rfl rfl) (by exact bySlots)
      · have ha : a < B.length := by have := of_decide_eq_true hc; omega
        refine WPL.run T false 6 tok (by rfl) (by exact byObl) ?_
        refine WPL.callR [3, 2] (l03Before_fn (B.getD a []) own (hBs a) hol) (by rfl) (LeAll.cons (by rfl) (by first | with_reducible exact Root.Le.refl _ | with_reducible exact le_dead | (skip; done) | exact byLeq) (by exact byCon) (LeAll.cons (by rfl) (by first | with_reducible exact Root.Le.refl _ | with_reducible exact le_dead | (skip; done) | exact byLeq) (by exact byCon) (trivial))) (by exact byArgs) (by rfl) (by rfl) (by simp [Sc, sc_pl, sc_ds]) ?_
        refine WPL.fin T false tok (by rfl) (by exact byObl) ?_
        refine WP.cond (by rfl) (fun h => WP.skip ?_) (fun h => WP.exit ?_)
        · have h := of_decide_eq_true h
          refine WP.block ?_
          refine WP.run T false tok (by rfl) (by exact byObl) ?_
          refine Again.next (a + 1) (Ghost.cut (Nat.le_refl _) (tauOf [0, 1, 2]) _ _ (Taken.of [0, 1, 2] (LeAll.cons (by rfl) (by first | with_reducible exact Root.Le.refl _ | with_reducible exact le_dead | (skip; done) | exact byLeq) (by exact byCon) (LeAll.cons (by rfl) (by first | with_reducible exact Root.Le.refl _ | with_reducible exact le_dead | (skip; done) | exact byLeq) (by exact byCon) (LeAll.cons (by rfl) (by first | with_reducible exact Root.Le.refl _ | with_reducible exact le_dead | (skip; done) | exact byLeq) (by exact byCon) (trivial)))) rfl rfl) (by exact bySlots)) (⟨ha, fun j hj => by
            by_cases e : j = a
            · subst e; exact h
            · exact ha2 j (by omega)⟩) (by dsimp only; omega)
        · have h := of_decide_eq_false h
          have e := atB_eq ha1 ha2 (fun _ => h)
          rw [← e]
          exact Ghost.cut (Nat.le_refl _) (tauOf [0, 1, 2]) [(1, .p 0 [] 0), (2, .ns), (3, .sl 1 0 B.length 1), (4, .i .i64 ((k + 1 : Nat) : Int)), (5, .sl 2 0 own.length 1), (6, .i .i64 ((a : Nat) : Int))] [.var (ds_ N b w), .row 34 B.length 1 (rowsR B), .ro own.length 1 (numsF own)] (Taken.of [0, 1, 2] (LeAll.cons (by rfl) (by first | with_reducible exact Root.Le.refl _ | with_reducible exact le_dead | (skip; done) | exact byLeq) (by exact byCon) (LeAll.cons (by rfl) (by first | with_reducible exact Root.Le.refl _ | with_reducible exact le_dead | (skip; done) | exact byLeq) (by exact byCon) (LeAll.cons (by rfl) (by first | with_reducible exact Root.Le.refl _ | with_reducible exact le_dead | (skip; done) | exact byLeq) (by exact byCon) (trivial)))) rfl rfl) (by exact bySlots)
    · have ha1 := atB_le own B
      have ha2 := @atB_at own B
      unfold insL at hbls
      generalize atB own B = a at *
      refine WP.seq ?_
      refine WP.rw ?_
      refine WPL.run T false 4 tok (by rfl) (by exact byObl) ?_
      cases hc : decide ((a : Int) < B.length)
      · have ha : a = B.length := by have := of_decide_eq_false hc; omega
        refine WPL.fin T false tok (by rfl) (by exact byObl) ?_
        refine WP.cond (by rfl) (fun h => ?_) (fun h => ?_)
        · cases h
        rw [if_neg (by omega)] at hbls
        refine WP.skip ?_
        refine WP.rw ?_
        refine WPL.run T false 2 tok (by rfl) (by exact byObl) ?_
        refine WPL.fold 3 [0] 2 0 (by rfl) rfl (by simp) (by rfl) ⟨Nat.le_refl _, .inl ⟨rfl, rfl, fun _ _ => trivial⟩⟩ (by rfl) ?_
        refine WPL.run T false 2 tok (by rfl) (by exact byObl) ?_
        subst ha
        refine WPL.op (by rfl) (by rfl) (QOK.op (sle_ok tok (rowsR B) rfl rfl rfl rfl rfl rfl rfl (by omega))) ?_
        refine WPL.fin T false tok (by rfl) (by exact ⟨Nat.le_refl _, Nat.le_refl _, by decide, fun j hj => absurd hj (Nat.not_lt_zero _)⟩) ?_
        refine WP.region ?_
        refine WPL.run T false 3 tok (by rfl) (by exact byObl) ?_
        refine WPL.op (by rfl) (by rfl) (QOK.op (slh_ok (h := B.length) tok rfl rfl rfl rfl rfl rfl rfl (by omega))) ?_
        refine WPL.fin T false tok (by rfl) (by exact ⟨by omega, by omega, by omega, by omega, by omega, by show _ ≤ 4294967296; omega⟩) ?_
        have hLen : (blsL N b w (k + 1)).length = 0 + B.length + (1 + 0) := by rw [hbls]; simp
        refine WP.run T false tok (by rfl) (by exact byObl) ?_
        refine Again.next (k + 1) (Ghost.cut (Nat.le_refl _) (tauOf [0, 8]) _ _ (Taken.of [0, 8] (LeAll.cons (by rfl) (by first | with_reducible exact Root.Le.refl _ | with_reducible exact le_dead | (exact le_row (Nat.le_of_eq hLen) (fun j hj => by rw [hbls]; exact ins_fun B own (Nat.le_refl _) _ _ _ _ rfl (fun i hi => by omega) (by have h9 := Nat.lt_of_lt_of_le hj (Nat.le_of_eq hLen); omega))) | exact byLeq) (by exact byCon) (LeAll.cons (by rfl) (by first | with_reducible exact Root.Le.refl _ | with_reducible exact le_dead | (exact le_row (Nat.le_of_eq hLen) (fun j hj => by rw [hbls]; exact ins_fun B own (Nat.le_refl _) _ _ _ _ rfl (fun i hi => by omega) (by have h9 := Nat.lt_of_lt_of_le hj (Nat.le_of_eq hLen); omega))) | exact byLeq) (by exact byCon) (trivial))) rfl rfl) (by exact bySlots)) (hk) (by dsimp only; omega)
      · have ha : a < B.length := by have := of_decide_eq_true hc; omega
        refine WPL.run T false 6 tok (by rfl) (by exact byObl) ?_
        refine WPL.callR [3, 2] (l03Before_fn (B.getD a []) own (hBs a) hol) (by rfl) (LeAll.cons (by rfl) (by first | with_reducible exact Root.Le.refl _ | with_reducible exact le_dead | (skip; done) | exact byLeq) (by exact byCon) (LeAll.cons (by rfl) (by first | with_reducible exact Root.Le.refl _ | with_reducible exact le_dead | (skip; done) | exact byLeq) (by exact byCon) (trivial))) (by exact byArgs) (by rfl) (by rfl) (by simp [Sc, sc_pl, sc_ds]) ?_
        refine WPL.fin T false tok (by rfl) (by exact byObl) ?_
        refine WP.cond (by rfl) (fun h => ?_) (fun h => ?_)
        · have h : befL (B.getD a []) own = 0 := by simpa using h
          rw [if_pos ⟨ha, h⟩] at hbls
          refine WP.exit ?_
          have hLen := congrArg List.length hbls
          refine WP.run T false tok (by rfl) (by exact byObl) ?_
          refine Again.next (k + 1) (Ghost.cut (Nat.le_refl _) (tauOf [0, 1]) _ _ (Taken.of [0, 1] (LeAll.cons (by rfl) (by first | with_reducible exact Root.Le.refl _ | with_reducible exact le_dead | (exact le_row (Nat.le_of_eq hLen) (fun j _ => by rw [hbls])) | exact byLeq) (by exact byCon) (LeAll.cons (by rfl) (by first | with_reducible exact Root.Le.refl _ | with_reducible exact le_dead | (exact le_row (Nat.le_of_eq hLen) (fun j _ => by rw [hbls])) | exact byLeq) (by exact byCon) (trivial))) rfl rfl) (by exact bySlots)) (hk) (by dsimp only; omega)
        · have h : befL (B.getD a []) own ≠ 0 := by simpa using h
          rw [if_neg (fun h2 => h h2.2)] at hbls
          refine WP.skip ?_
          refine WP.rw ?_
          refine WPL.run T false 2 tok (by rfl) (by exact byObl) ?_
          refine WPL.fold 4 [0] 2 0 (by rfl) rfl (by simp) (by rfl) ⟨Nat.le_refl _, .inl ⟨rfl, rfl, fun _ _ => trivial⟩⟩ (by rfl) ?_
          refine WPL.run T false 2 tok (by rfl) (by exact byObl) ?_
          refine WPL.op (by rfl) (by rfl) (QOK.op (sll_ok (l := a) tok rfl rfl rfl rfl rfl rfl rfl (by omega) (by omega))) ?_
          refine WPL.op (by rfl) (by rfl) (ok_app_keepN tok rfl rfl rfl rfl rfl rfl (by decide) rfl rfl rfl (by decide) (fun j _ => noOwn_R _) (Nat.le_refl _) (by omega) (by omega) rfl rfl) ?_
          refine WPL.fin T false tok (by rfl) (by exact byObl) ?_
          refine WP.region ?_
          refine WPL.run T false 3 tok (by rfl) (by exact byObl) ?_
          refine WPL.op (by rfl) (by rfl) (QOK.op (slh_ok (h := a) tok rfl rfl rfl rfl rfl rfl rfl (by omega))) ?_
          refine WPL.fin T false tok (by rfl) (by exact ⟨by omega, by omega, by omega, by omega, by omega, by show _ ≤ 4294967296; omega⟩) ?_
          have hLen : (blsL N b w (k + 1)).length = 0 + a + (1 + (B.length - a)) := by rw [hbls]; simp; omega
          refine WP.run T false tok (by rfl) (by exact byObl) ?_
          refine Again.next (k + 1) (Ghost.cut (Nat.le_refl _) (tauOf [0, 8]) _ _ (Taken.of [0, 8] (LeAll.cons (by rfl) (by first | with_reducible exact Root.Le.refl _ | with_reducible exact le_dead | (exact le_row (Nat.le_of_eq hLen) (fun j hj => by rw [hbls]; exact ins_fun B own (Nat.le_of_lt ha) _ _ _ _ rfl (fun i hi => by rw [Nat.zero_add]; rfl) (by have h9 := Nat.lt_of_lt_of_le hj (Nat.le_of_eq hLen); omega))) | exact byLeq) (by exact byCon) (LeAll.cons (by rfl) (by first | with_reducible exact Root.Le.refl _ | with_reducible exact le_dead | (exact le_row (Nat.le_of_eq hLen) (fun j hj => by rw [hbls]; exact ins_fun B own (Nat.le_of_lt ha) _ _ _ _ rfl (fun i hi => by rw [Nat.zero_add]; rfl) (by have h9 := Nat.lt_of_lt_of_le hj (Nat.le_of_eq hLen); omega))) | exact byLeq) (by exact byCon) (trivial))) rfl rfl) (by exact bySlots)) (hk) (by dsimp only; omega)
  · have hk : k = N - 1 := by have := of_decide_eq_false hc; omega
    clear hc
    subst hk
    refine WP.rs T false tok (by rfl) (by exact byObl) ?_
    exact WP.ret (Ends.new [1] (by rfl) (by exact byObl) (LeAll.cons (by rfl) (by first | with_reducible exact Root.Le.refl _ | with_reducible exact le_dead | (skip; done) | exact byLeq) (by exact byCon) (trivial)) rfl rfl (rfl) (sc_sl rfl))

end Go.Proofs.Ytaafldclbdlgfaa
