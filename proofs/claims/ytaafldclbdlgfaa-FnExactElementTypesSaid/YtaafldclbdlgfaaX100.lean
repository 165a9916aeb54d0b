import Derived.Test.YtaafldclbdlgfaaX4
import Derived.Test.YtaafldclbdlgfaaL35
/- slices.Compare and slices.Equal at []int64; comparing lists by length, then number by number. -/
namespace Go.Proofs.Ytaafldclbdlgfaa
open Go.RowKit DM
set_option linter.unusedSimpArgs false
set_option linter.unusedVariables false
set_option maxRecDepth 100000
set_option maxHeartbeats 1000000

theorem isNaN_fn (x : Int) : FnP Try.prog 92 [.i .i64 x] (.b false) := by
  refine FnS.into T tok Try.func92 (by rfl) rfl rfl rfl (by simp) ?_
  refine WP.rs T false tok (by rfl) (by exact byObl) ?_
  refine WP.rw ?_
  refine WPL.run T false 3 tok (by rfl) (by exact byObl) ?_
  rw [decide_eq_true (rfl : x = x)]
  refine WPL.fin T false tok (by rfl) (by exact byObl) ?_
  exact WP.ret (Ends.val (by rfl) (by exact byObl) (by rfl) (by trivial))

def cmpI (x y : Int) : Int := if x < y then -1 else if y < x then 1 else 0

theorem cmpCompare_fn (x y : Int) : FnP Try.prog 70 [.i .i64 x, .i .i64 y] (.i .i64 (cmpI x y)) := by
  refine FnS.into T tok Try.func70 (by rfl) rfl rfl rfl (by simp) ?_
  refine WP.rs T false tok (by rfl) (by exact byObl) ?_
  refine WP.rw ?_
  refine WPL.run T false 1 tok (by rfl) (by exact byObl) ?_
  refine WPL.call (isNaN_fn x) (by rfl) (by rfl) (by rfl) (by simp [Sc, sc_pl, sc_ds, pl_ne, ds_ne]) ?_
  refine WPL.fin T false tok (by rfl) (by exact byObl) ?_
  refine WP.rw ?_
  refine WPL.run T false 1 tok (by rfl) (by exact byObl) ?_
  refine WPL.call (isNaN_fn y) (by rfl) (by rfl) (by rfl) (by simp [Sc, sc_pl, sc_ds, pl_ne, ds_ne]) ?_
  refine WPL.fin T false tok (by rfl) (by exact byObl) ?_
  refine WP.seq ?_
  refine WP.rs T false tok (by rfl) (by exact byObl) ?_
  refine WP.cond (by rfl) (fun h => ?_) (fun h => WP.skip ?_)
  · cases h
  refine WP.seq ?_
  refine WP.rs T false tok (by rfl) (by exact byObl) ?_
  refine WP.cond (by rfl) (fun h => ?_) (fun h => WP.skip ?_)
  · cases h
  refine WP.seq ?_
  refine WP.rs T false tok (by rfl) (by exact byObl) ?_
  refine WP.cond (by rfl) (fun h => ?_) (fun h => WP.skip ?_)
  · have h := of_decide_eq_true h
    refine WP.rs T false tok (by rfl) (by exact byObl) ?_
    exact WP.ret (Ends.val (by rfl) (by exact byObl) (by show Dat.i .i64 (-1) = _; unfold cmpI; rw [if_pos h]) (by trivial))
  have h := of_decide_eq_false h
  refine WP.seq ?_
  refine WP.rs T false tok (by rfl) (by exact byObl) ?_
  refine WP.cond (by rfl) (fun h2 => ?_) (fun h2 => WP.skip ?_)
  · have h2 := of_decide_eq_true h2
    refine WP.rs T false tok (by rfl) (by exact byObl) ?_
    exact WP.ret (Ends.val (by rfl) (by exact byObl) (by show Dat.i .i64 1 = _; unfold cmpI; rw [if_neg h, if_pos h2]) (by trivial))
  have h2 := of_decide_eq_false h2
  refine WP.rs T false tok (by rfl) (by exact byObl) ?_
  exact WP.ret (Ends.val (by rfl) (by exact byObl) (by show Dat.i .i64 0 = _; unfold cmpI; rw [if_neg h, if_neg h2]) (by trivial))

theorem lex_at {l k : List Nat} {i : Nat} (hi : i < l.length) (hk : i < k.length) : lexL (l.drop i) (k.drop i) = if cmpI (l.getD i 0 : Nat) (k.getD i 0 : Nat) = 0 then lexL (l.drop (i + 1)) (k.drop (i + 1)) else cmpI (l.getD i 0 : Nat) (k.getD i 0 : Nat) := by
  rw [List.drop_eq_getElem_cons hi, List.drop_eq_getElem_cons hk]
  simp only [List.getD_eq_getElem?_getD, List.getElem?_eq_getElem hi, List.getElem?_eq_getElem hk, Option.getD_some, lexL, cmpI]
  rcases Nat.lt_trichotomy l[i] k[i] with h | h | h
  · rw [if_pos h, if_pos (show ((l[i] : Nat) : Int) < (k[i] : Nat) by omega)]; rfl
  · rw [if_neg (by omega), if_neg (by omega), if_neg (show ¬ ((l[i] : Nat) : Int) < (k[i] : Nat) by omega), if_neg (show ¬ ((k[i] : Nat) : Int) < (l[i] : Nat) by omega)]; rfl
  · rw [if_neg (by omega), if_pos h, if_neg (show ¬ ((l[i] : Nat) : Int) < (k[i] : Nat) by omega), if_pos (show ((k[i] : Nat) : Int) < (l[i] : Nat) by omega)]; rfl
theorem lex_end {l k : List Nat} {i : Nat} (hi : i < l.length) (hk : ¬ i < k.length) : lexL (l.drop i) (k.drop i) = 1 := by
  rw [List.drop_eq_getElem_cons hi, List.drop_eq_nil_of_le (by omega : k.length ≤ i)]; rfl
theorem lex_end2 {l k : List Nat} {i : Nat} (hi : ¬ i < l.length) : lexL (l.drop i) (k.drop i) = if i < k.length then -1 else 0 := by
  rw [List.drop_eq_nil_of_le (by omega : l.length ≤ i)]
  split
  · rename_i h; rw [List.drop_eq_getElem_cons h]; rfl
  · rename_i h; rw [List.drop_eq_nil_of_le (by omega : k.length ≤ i)]; rfl

theorem slicesCompare_fn (l k : List Nat) (hl : l.length ≤ 65536) (hk : k.length ≤ 65536) : FnR Try.prog 48 [.sl 0 0 l.length 1, .sl 1 0 k.length 1] [.ro l.length 1 (numsF l), .ro k.length 1 (numsF k)] (.i .i64 (lexL l k)) := by
  refine FnS.into T tok Try.func48 (by rfl) rfl rfl rfl (by simp) ?_
  refine WP.rs T false tok (by rfl) (by exact byObl) ?_
  refine WP.seq ?_
  refine WP.rs T false tok (by rfl) (by exact byObl) ?_
  refine WP.block ?_
  refine WP.loopH (⟨fun i : Nat => i ≤ l.length ∧ i ≤ k.length ∧ lexL (l.drop i) (k.drop i) = lexL l k, fun i => [(0, .sl 0 0 l.length 1), (1, .sl 1 0 k.length 1), (4, .i .i64 0), (9, .sl 0 0 l.length 1), (10, .i .i64 (l.length : Int)), (11, .i .i64 (i : Int))], fun i => [.ro l.length 1 (numsF l), .ro k.length 1 (numsF k)], fun i => l.length - i⟩) (0) (⟨Nat.zero_le _, Nat.zero_le _, rfl⟩) (Ghost.cut (Nat.le_refl _) (tauOf [0, 1]) _ _ (Taken.of [0, 1] (LeAll.cons (by rfl) (by first | with_reducible exact Root.Le.refl _ | with_reducible exact le_dead | (skip; done) | exact byLeq) (by exact byCon) (LeAll.cons (by rfl) (by first | with_reducible exact Root.Le.refl _ | with_reducible exact le_dead | (skip; done) | exact byLeq) (by exact byCon) (trivial))) rfl rfl) (by exact bySlots)) ?_
  intro i hi
  dsimp only at hi
  dsimp only [Hd.at]
  obtain ⟨hi1, hi2, hi3⟩ := hi
  refine WP.rs T false tok (by rfl) (by exact byObl) ?_
  refine WP.seq ?_
  refine WP.cond (by rfl) (fun hc => WP.skip ?_) (fun hc => WP.exit ?_)
  · have hi : i < l.length := by have := of_decide_eq_true hc; omega
    clear hc
    refine WP.seq (WP.block ?_)
    refine WP.rs T false tok (by rfl) (by exact byObl) ?_
    refine WP.seq ?_
    refine WP.rs T false tok (by rfl) (by exact byObl) ?_
    refine WP.cond (by rfl) (fun h => ?_) (fun h => WP.skip ?_)
    · have h : ¬ i < k.length := by have := of_decide_eq_true h; omega
      refine WP.rs T false tok (by rfl) (by exact byObl) ?_
      exact WP.ret (Ends.val (by rfl) (by exact byObl) (by show Dat.i .i64 1 = _; rw [← hi3, lex_end hi h]) (by trivial))
    have hik : i < k.length := by have := of_decide_eq_false h; omega
    clear h
    refine WP.rs T false tok (by rfl) (by exact byObl) ?_
    refine WP.rw ?_
    refine WPL.run T false 2 tok (by rfl) (by exact byObl) ?_
    refine WPL.call (cmpCompare_fn (l.getD i 0 : Nat) (k.getD i 0 : Nat)) (by rfl) (by rfl) (by rfl) (by simp [Sc, sc_pl, sc_ds, pl_ne, ds_ne]) ?_
    refine WPL.fin T false tok (by rfl) (by exact byObl) ?_
    refine WP.rs T false tok (by rfl) (by exact byObl) ?_
    refine WP.cond (by rfl) (fun h => ?_) (fun h => ?_)
    · have h : cmpI (l.getD i 0 : Nat) (k.getD i 0 : Nat) ≠ 0 := by simpa using h
      refine WP.rs T false tok (by rfl) (by exact byObl) ?_
      exact WP.ret (Ends.val (by rfl) (by exact byObl) (by show Dat.i .i64 (cmpI (l.getD i 0 : Nat) (k.getD i 0 : Nat)) = _; rw [← hi3, lex_at hi hik, if_neg h]) (by trivial))
    · have h : cmpI (l.getD i 0 : Nat) (k.getD i 0 : Nat) = 0 := by simpa using h
      refine WP.skip ?_
      refine WP.run T false tok (by rfl) (by exact byObl) ?_
      refine Again.next (i + 1) (Ghost.cut (Nat.le_refl _) (tauOf [0, 1]) _ _ (Taken.of [0, 1] (LeAll.cons (by rfl) (by first | with_reducible exact Root.Le.refl _ | with_reducible exact le_dead | (skip; done) | exact byLeq) (by exact byCon) (LeAll.cons (by rfl) (by first | with_reducible exact Root.Le.refl _ | with_reducible exact le_dead | (skip; done) | exact byLeq) (by exact byCon) (trivial))) rfl rfl) (by exact bySlots)) (⟨hi, hik, by rw [← hi3, lex_at hi hik, if_pos h]⟩) (by dsimp only; omega)
  · have hi : ¬ i < l.length := by have := of_decide_eq_false hc; omega
    clear hc
    refine WP.seq ?_
    refine WP.rs T false tok (by rfl) (by exact byObl) ?_
    refine WP.cond (by rfl) (fun h => ?_) (fun h => WP.skip ?_)
    · have h := of_decide_eq_true h
      refine WP.rs T false tok (by rfl) (by exact byObl) ?_
      exact WP.ret (Ends.val (by rfl) (by exact byObl) (by show Dat.i .i64 (-1) = _; rw [← hi3, lex_end2 hi, if_pos (by omega)]) (by trivial))
    have h := of_decide_eq_false h
    refine WP.rs T false tok (by rfl) (by exact byObl) ?_
    exact WP.ret (Ends.val (by rfl) (by exact byObl) (by show Dat.i .i64 0 = _; rw [← hi3, lex_end2 hi, if_neg (by omega)]) (by trivial))

theorem drop_eq {l k : List Nat} {i : Nat} (hi : i < l.length) (hk : i < k.length) : l.drop i = k.drop i ↔ l.getD i 0 = k.getD i 0 ∧ l.drop (i + 1) = k.drop (i + 1) := by
  rw [List.drop_eq_getElem_cons hi, List.drop_eq_getElem_cons hk]
  simp only [List.getD_eq_getElem?_getD, List.getElem?_eq_getElem hi, List.getElem?_eq_getElem hk, Option.getD_some, List.cons.injEq]

theorem slicesEqual_fn (l k : List Nat) (hl : l.length ≤ 65536) (hk : k.length ≤ 65536) : FnR Try.prog 49 [.sl 0 0 l.length 1, .sl 1 0 k.length 1] [.ro l.length 1 (numsF l), .ro k.length 1 (numsF k)] (.b (decide (l = k))) := by
  refine FnS.into T tok Try.func49 (by rfl) rfl rfl rfl (by simp) ?_
  refine WP.rs T false tok (by rfl) (by exact byObl) ?_
  refine WP.seq ?_
  refine WP.rs T false tok (by rfl) (by exact byObl) ?_
  refine WP.cond (by rfl) (fun h => ?_) (fun h => WP.skip ?_)
  · have h : l.length ≠ k.length := by simp at h; omega
    refine WP.rs T false tok (by rfl) (by exact byObl) ?_
    exact WP.ret (Ends.val (by rfl) (by exact byObl) (by show Dat.b false = _; rw [decide_eq_false fun e => h (by rw [e])]) (by trivial))
  have h : l.length = k.length := by simp at h; omega
  refine WP.seq ?_
  refine WP.rs T false tok (by rfl) (by exact byObl) ?_
  refine WP.block ?_
  refine WP.loopH (⟨fun i : Nat => i ≤ l.length ∧ (l.drop i = k.drop i ↔ l = k), fun i => [(0, .sl 0 0 l.length 1), (1, .sl 1 0 k.length 1), (4, .b false), (12, .i .i64 (l.length : Int)), (13, .i .i64 (i : Int))], fun i => [.ro l.length 1 (numsF l), .ro k.length 1 (numsF k)], fun i => l.length - i⟩) (0) (⟨Nat.zero_le _, Iff.rfl⟩) (Ghost.cut (Nat.le_refl _) (tauOf [0, 1]) _ _ (Taken.of [0, 1] (LeAll.cons (by rfl) (by first | with_reducible exact Root.Le.refl _ | with_reducible exact le_dead | (skip; done) | exact byLeq) (by exact byCon) (LeAll.cons (by rfl) (by first | with_reducible exact Root.Le.refl _ | with_reducible exact le_dead | (skip; done) | exact byLeq) (by exact byCon) (trivial))) rfl rfl) (by exact bySlots)) ?_
  intro i hi
  dsimp only at hi
  dsimp only [Hd.at]
  obtain ⟨hi1, hi2⟩ := hi
  refine WP.rs T false tok (by rfl) (by exact byObl) ?_
  refine WP.seq ?_
  refine WP.cond (by rfl) (fun hc => WP.skip ?_) (fun hc => WP.exit ?_)
  · have hi : i < l.length := by have := of_decide_eq_true hc; omega
    clear hc
    refine WP.seq (WP.block ?_)
    refine WP.rs T false tok (by rfl) (by exact byObl) ?_
    refine WP.seq ?_
    refine WP.drawsQ (by kernel_rfl) (by kernel_rfl) ?_
    refine WQ.fin T false tok (by rfl) (by rfl) (by exact byObl) ?_
    refine WP.cond (by rfl) (fun h3 => ?_) (fun h3 => ?_)
    · have h3 : l.getD i 0 ≠ k.getD i 0 := by simp [addrAt0] at h3; simp; omega
      refine WP.rs T false tok (by rfl) (by exact byObl) ?_
      exact WP.ret (Ends.val (by rfl) (by exact byObl) (by show Dat.b false = _; rw [decide_eq_false fun e => h3 ((drop_eq hi (by omega)).1 (hi2.2 e)).1]) (by trivial))
    · have h3 : l.getD i 0 = k.getD i 0 := by simp [addrAt0] at h3; simp; omega
      refine WP.skip ?_
      refine WP.run T false tok (by rfl) (by exact byObl) ?_
      refine Again.next (i + 1) (Ghost.cut (Nat.le_refl _) (tauOf [0, 1]) _ _ (Taken.of [0, 1] (LeAll.cons (by rfl) (by first | with_reducible exact Root.Le.refl _ | with_reducible exact le_dead | (skip; done) | exact byLeq) (by exact byCon) (LeAll.cons (by rfl) (by first | with_reducible exact Root.Le.refl _ | with_reducible exact le_dead | (skip; done) | exact byLeq) (by exact byCon) (trivial))) rfl rfl) (by exact bySlots)) (⟨hi, ⟨fun e => hi2.1 ((drop_eq hi (by omega)).2 ⟨h3, e⟩), fun e => ((drop_eq hi (by omega)).1 (hi2.2 e)).2⟩⟩) (by dsimp only; omega)
  · have hi : ¬ i < l.length := by have := of_decide_eq_false hc; omega
    clear hc
    refine WP.rs T false tok (by rfl) (by exact byObl) ?_
    exact WP.ret (Ends.val (by rfl) (by exact byObl) (by show Dat.b true = _; rw [decide_eq_true (hi2.1 (by rw [List.drop_eq_nil_of_le (by omega), List.drop_eq_nil_of_le (by omega)]))]) (by trivial))

end Go.Proofs.Ytaafldclbdlgfaa
