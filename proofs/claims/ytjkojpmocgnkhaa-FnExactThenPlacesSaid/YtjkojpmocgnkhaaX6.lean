/- Constants, chains, and the permutation that leads back. -/
import Derived.Test.YtjkojpmocgnkhaaX5
namespace Go.Proofs.Ytjkojpmocgnkhaa
open Go.RowKit DM
set_option linter.unusedSimpArgs false
set_option linter.unusedVariables false
set_option maxRecDepth 100000

theorem law_Constants : FnP Try.prog 3 [] (.b true) := by
  refine FnS.into T tok Try.func3 (by rfl) rfl rfl rfl (by simp) ?_
  refine WP.rs T false tok (by rfl) (by first | trivial | (simp only [Int.toNat_natCast, List.nil_append, List.cons_append, List.append_nil, AllP, plE, InR, Root.holds] <;> and_intros <;> first | omega | assumption | exact rfl | trivial | exact pl_ds _ _ _ | exact pl_st3 trivial (pl_pl _) (pl_pl _) | exact fun _ _ => trivial)) ?_
  iterate 23 (refine WP.cskip (by rfl) (fun hc => (by cases hc)) (fun _ => ?_))
  refine WP.rs T false tok (by rfl) (by first | trivial | (simp only [Int.toNat_natCast, List.nil_append, List.cons_append, List.append_nil, AllP, plE, InR, Root.holds] <;> and_intros <;> first | omega | assumption | exact rfl | trivial | exact pl_ds _ _ _ | exact pl_st3 trivial (pl_pl _) (pl_pl _) | exact fun _ _ => trivial)) ?_
  exact WP.ret (Ends.val (by rfl) (by first | trivial | (simp only [Int.toNat_natCast, List.nil_append, List.cons_append, List.append_nil, AllP, plE, InR, Root.holds] <;> and_intros <;> first | omega | assumption | exact rfl | trivial | exact pl_ds _ _ _ | exact pl_st3 trivial (pl_pl _) (pl_pl _) | exact fun _ _ => trivial)) (by rfl) (by trivial))

/-! ### Chains -/
/-- The two arrays of a chain after k steps. -/
def chainB (n : Nat) : Nat → Nat → Nat
  | 0 => fillF (fun i => i) n
  | k + 1 => if k % 2 = 0 then chainB n k else up (up (chainB n k) k (k + 1)) (k + 1) k
def chainW (n : Nat) : Nat → Nat → Nat
  | 0 => fillF (fun i => i) n
  | k + 1 => if k % 2 = 0 then up (up (chainW n k) k (k + 1)) (k + 1) k else chainW n k

theorem tmod2 (k : Nat) : ((k : Int)).tmod 2 = ((k % 2 : Nat) : Int) := by rw [Int.tmod_eq_emod_of_nonneg (by omega)]; simp

theorem l01Chain_fn (n : Nat) (h1 : 1 ≤ n) (hn : n ≤ 16) : FnP Try.prog 55 [.i .i64 n] (ds_ n (chainB n (n - 1)) (chainW n (n - 1))) := by
  refine FnS.into T tok Try.func55 (by rfl) rfl rfl rfl (by simp) ?_
  refine WP.rs T false tok (by rfl) (by first | trivial | (simp only [Int.toNat_natCast, List.nil_append, List.cons_append, List.append_nil, AllP, plE, InR, Root.holds] <;> and_intros <;> first | omega | assumption | exact rfl | trivial | exact pl_ds _ _ _ | exact pl_st3 trivial (pl_pl _) (pl_pl _) | exact fun _ _ => trivial)) ?_
  refine WP.rw ?_
  refine WPL.run T false 2 tok (by rfl) (by first | trivial | (simp only [Int.toNat_natCast, List.nil_append, List.cons_append, List.append_nil, AllP, plE, InR, Root.holds] <;> and_intros <;> first | omega | assumption | exact rfl | trivial | exact pl_ds _ _ _ | exact pl_st3 trivial (pl_pl _) (pl_pl _) | exact fun _ _ => trivial)) ?_
  refine WPL.call (l01Same_fn n hn) (by rfl) (by rfl) (by rfl) (by simp [Sc, sc_pl, sc_ds, pl_ne, ds_ne]) ?_
  refine WPL.run T false 1 tok (by rfl) (by first | trivial | (simp only [Int.toNat_natCast, List.nil_append, List.cons_append, List.append_nil, AllP, plE, InR, Root.holds] <;> and_intros <;> first | omega | assumption | exact rfl | trivial | exact pl_ds _ _ _ | exact pl_st3 trivial (pl_pl _) (pl_pl _) | exact fun _ _ => trivial)) ?_
  refine WPL.call (l01Same_fn n hn) (by rfl) (by rfl) (by rfl) (by simp [Sc, sc_pl, sc_ds, pl_ne, ds_ne]) ?_
  refine WPL.fin T false tok (by rfl) (by first | trivial | (simp only [Int.toNat_natCast, List.nil_append, List.cons_append, List.append_nil, AllP, plE, InR, Root.holds] <;> and_intros <;> first | omega | assumption | exact rfl | trivial | exact pl_ds _ _ _ | exact pl_st3 trivial (pl_pl _) (pl_pl _) | exact fun _ _ => trivial)) ?_
  refine WP.seq ?_
  refine WP.rs T false tok (by rfl) (by first | trivial | (simp only [Int.toNat_natCast, List.nil_append, List.cons_append, List.append_nil, AllP, plE, InR, Root.holds] <;> and_intros <;> first | omega | assumption | exact rfl | trivial | exact pl_ds _ _ _ | exact pl_st3 trivial (pl_pl _) (pl_pl _) | exact fun _ _ => trivial)) ?_
  refine WP.block ?_
  refine WP.loopS [4, 11, 12, 13, 14, 15, 16, 17, 18, 19, 20, 21, 22, 23, 24, 25, 26, 27, 28, 29, 30, 31, 32, 33, 34, 35, 36, 37, 38, 39, 40, 41, 42, 43] (fun k : Nat => k ≤ n - 1) (fun k => [(4, .i .i64 k)]) (fun k => [.var (ds_ 0 (fun _ => 0) (fun _ => 0)), .var (ds_ n (chainB n k) (chainW n k))]) (fun k => n - k) 0 (by omega) (by rfl) (mem2 (dsf_of rfl rfl rfl fun _ => rfl) (dsf_of rfl rfl rfl fun _ => rfl)) ?_
  intro k hk g
  refine WP.seq ?_
  refine WP.rs T false tok (by rfl) (by first | trivial | (simp only [Int.toNat_natCast, List.nil_append, List.cons_append, List.append_nil, AllP, plE, InR, Root.holds] <;> and_intros <;> first | omega | assumption | exact rfl | trivial | exact pl_ds _ _ _ | exact pl_st3 trivial (pl_pl _) (pl_pl _) | exact fun _ _ => trivial)) ?_
  refine WP.cond (by rfl) (fun hc => WP.skip ?_) (fun hc => WP.exit ?_)
  · have hk : k + 1 < n := by have := of_decide_eq_true hc; omega
    refine WP.seq (WP.block ?_)
    refine WP.rs T false tok (by rfl) (by first | trivial | (simp only [Int.toNat_natCast, List.nil_append, List.cons_append, List.append_nil, AllP, plE, InR, Root.holds] <;> and_intros <;> first | omega | assumption | exact rfl | trivial | exact pl_ds _ _ _ | exact pl_st3 trivial (pl_pl _) (pl_pl _) | exact fun _ _ => trivial)) ?_
    refine WP.cond (by rfl) (fun h2 => ?_) (fun h2 => ?_)
    · have h2 : k % 2 = 0 := by have := of_decide_eq_true h2; rw [tmod2] at this; omega
      refine WP.rs T false tok (by rfl) (by first | trivial | (simp only [Int.toNat_natCast, List.nil_append, List.cons_append, List.append_nil, AllP, plE, InR, Root.holds] <;> and_intros <;> first | omega | assumption | exact rfl | trivial | exact pl_ds _ _ _ | exact pl_st3 trivial (pl_pl _) (pl_pl _) | exact fun _ _ => trivial)) ?_
      refine WP.mem (by simp only [upd, pl, dsf, cast1, Int.toNat_natCast, fup_u8, fup_b, fup_i64, dsf_up0, dsf_up1, dsf_up2]; rfl) ?_
      refine WP.run T false tok (by rfl) (by first | trivial | (simp only [Int.toNat_natCast, List.nil_append, List.cons_append, List.append_nil, AllP, plE, InR, Root.holds] <;> and_intros <;> first | omega | assumption | exact rfl | trivial | exact pl_ds _ _ _ | exact pl_st3 trivial (pl_pl _) (pl_pl _) | exact fun _ _ => trivial)) ?_
      refine WP.run T false tok (by rfl) (by first | trivial | (simp only [Int.toNat_natCast, List.nil_append, List.cons_append, List.append_nil, AllP, plE, InR, Root.holds] <;> and_intros <;> first | omega | assumption | exact rfl | trivial | exact pl_ds _ _ _ | exact pl_st3 trivial (pl_pl _) (pl_pl _) | exact fun _ _ => trivial)) ?_
      refine ⟨k + 1, by omega, by omega, by (dsimp only; (repeat (first | (with_reducible exact Agree.refl) | ((with_reducible refine Agree.hd ?_); exact rfl) | ((with_reducible refine Agree.fup ?_ ?_); exact rfl) | ((with_reducible refine Agree.inner ?_ ?_ ?_); exact rfl; exact rfl)))), by first | rfl | simp [Slots], by first | rfl | (simp only [upd, pl, dsf, cast1, Int.toNat_natCast, fup_u8, fup_b, fup_i64, dsf_up0, dsf_up1, dsf_up2]; done) | (simp only [upd, pl, dsf, cast1, Int.toNat_natCast, fup_u8, fup_b, fup_i64, dsf_up0, dsf_up1, dsf_up2]; first | ((simp only [chainB, chainW, if_pos h2]); done) | ((simp only [chainB, chainW, if_pos h2]); rfl))⟩
    · have h2 : ¬ k % 2 = 0 := by have := of_decide_eq_false h2; rw [tmod2] at this; omega
      refine WP.rs T false tok (by rfl) (by first | trivial | (simp only [Int.toNat_natCast, List.nil_append, List.cons_append, List.append_nil, AllP, plE, InR, Root.holds] <;> and_intros <;> first | omega | assumption | exact rfl | trivial | exact pl_ds _ _ _ | exact pl_st3 trivial (pl_pl _) (pl_pl _) | exact fun _ _ => trivial)) ?_
      refine WP.mem (by simp only [upd, pl, dsf, cast1, Int.toNat_natCast, fup_u8, fup_b, fup_i64, dsf_up0, dsf_up1, dsf_up2]; rfl) ?_
      refine WP.run T false tok (by rfl) (by first | trivial | (simp only [Int.toNat_natCast, List.nil_append, List.cons_append, List.append_nil, AllP, plE, InR, Root.holds] <;> and_intros <;> first | omega | assumption | exact rfl | trivial | exact pl_ds _ _ _ | exact pl_st3 trivial (pl_pl _) (pl_pl _) | exact fun _ _ => trivial)) ?_
      refine WP.run T false tok (by rfl) (by first | trivial | (simp only [Int.toNat_natCast, List.nil_append, List.cons_append, List.append_nil, AllP, plE, InR, Root.holds] <;> and_intros <;> first | omega | assumption | exact rfl | trivial | exact pl_ds _ _ _ | exact pl_st3 trivial (pl_pl _) (pl_pl _) | exact fun _ _ => trivial)) ?_
      refine ⟨k + 1, by omega, by omega, by (dsimp only; (repeat (first | (with_reducible exact Agree.refl) | ((with_reducible refine Agree.hd ?_); exact rfl) | ((with_reducible refine Agree.fup ?_ ?_); exact rfl) | ((with_reducible refine Agree.inner ?_ ?_ ?_); exact rfl; exact rfl)))), by first | rfl | simp [Slots], by first | rfl | (simp only [upd, pl, dsf, cast1, Int.toNat_natCast, fup_u8, fup_b, fup_i64, dsf_up0, dsf_up1, dsf_up2]; done) | (simp only [upd, pl, dsf, cast1, Int.toNat_natCast, fup_u8, fup_b, fup_i64, dsf_up0, dsf_up1, dsf_up2]; first | ((simp only [chainB, chainW, if_neg h2]); done) | ((simp only [chainB, chainW, if_neg h2]); rfl))⟩
  · have hk : k = n - 1 := by have := of_decide_eq_false hc; omega
    subst hk
    refine WP.rs T false tok (by rfl) (by first | trivial | (simp only [Int.toNat_natCast, List.nil_append, List.cons_append, List.append_nil, AllP, plE, InR, Root.holds] <;> and_intros <;> first | omega | assumption | exact rfl | trivial | exact pl_ds _ _ _ | exact pl_st3 trivial (pl_pl _) (pl_pl _) | exact fun _ _ => trivial)) ?_
    exact WP.ret (Ends.val (by rfl) (by first | trivial | (simp only [Int.toNat_natCast, List.nil_append, List.cons_append, List.append_nil, AllP, plE, InR, Root.holds] <;> and_intros <;> first | omega | assumption | exact rfl | trivial | exact pl_ds _ _ _ | exact pl_st3 trivial (pl_pl _) (pl_pl _) | exact fun _ _ => trivial)) (by rfl) (by exact sc_ds _ _ _ _))

theorem implChain_loop : True := trivial

noncomputable def chainR (n : Int) : Dat := if 1 ≤ n ∧ n ≤ 16 then t2 (ds_ n (chainB n.toNat (n.toNat - 1)) (chainW n.toNat (n.toNat - 1))) (.i .i64 0) else t2 (ds_ 0 (fun _ => 0) (fun _ => 0)) (.i .i64 2)
theorem chainR_form (n : Int) : ∃ m b w c, chainR n = t2 (ds_ m b w) (.i .i64 c) := by
  unfold chainR; split <;> exact ⟨_, _, _, _, rfl⟩

theorem specChain_fn (n : Int) : FnP Try.prog 27 [.i .i64 n] (chainR n) := by
  refine FnS.into T tok Try.func27 (by rfl) rfl rfl rfl (by simp) ?_
  refine WP.rs T false tok (by rfl) (by first | trivial | (simp only [Int.toNat_natCast, List.nil_append, List.cons_append, List.append_nil, AllP, plE, InR, Root.holds] <;> and_intros <;> first | omega | assumption | exact rfl | trivial | exact pl_ds _ _ _ | exact pl_st3 trivial (pl_pl _) (pl_pl _) | exact fun _ _ => trivial)) ?_
  refine WP.seq ?_
  refine WP.rw ?_
  refine WPL.run T false 1 tok (by rfl) (by first | trivial | (simp only [Int.toNat_natCast, List.nil_append, List.cons_append, List.append_nil, AllP, plE, InR, Root.holds] <;> and_intros <;> first | omega | assumption | exact rfl | trivial | exact pl_ds _ _ _ | exact pl_st3 trivial (pl_pl _) (pl_pl _) | exact fun _ _ => trivial)) ?_
  refine WPL.call (l01In_fn n 1 16) (by rfl) (by rfl) (by rfl) (by simp [Sc, sc_pl, sc_ds, pl_ne, ds_ne]) ?_
  refine WPL.fin T false tok (by rfl) (by first | trivial | (simp only [Int.toNat_natCast, List.nil_append, List.cons_append, List.append_nil, AllP, plE, InR, Root.holds] <;> and_intros <;> first | omega | assumption | exact rfl | trivial | exact pl_ds _ _ _ | exact pl_st3 trivial (pl_pl _) (pl_pl _) | exact fun _ _ => trivial)) ?_
  refine WP.cond (by rfl) (fun hc => ?_) (fun hc => WP.skip ?_)
  · have e : chainR n = t2 (ds_ 0 (fun _ => 0) (fun _ => 0)) (.i .i64 2) := by unfold chainR; rw [if_neg (by simp at hc; omega)]
    refine WP.rs T false tok (by rfl) (by first | trivial | (simp only [Int.toNat_natCast, List.nil_append, List.cons_append, List.append_nil, AllP, plE, InR, Root.holds] <;> and_intros <;> first | omega | assumption | exact rfl | trivial | exact pl_ds _ _ _ | exact pl_st3 trivial (pl_pl _) (pl_pl _) | exact fun _ _ => trivial)) ?_
    rw [e]
    exact WP.ret (Ends.val (by rfl) (by first | trivial | (simp only [Int.toNat_natCast, List.nil_append, List.cons_append, List.append_nil, AllP, plE, InR, Root.holds] <;> and_intros <;> first | omega | assumption | exact rfl | trivial | exact pl_ds _ _ _ | exact pl_st3 trivial (pl_pl _) (pl_pl _) | exact fun _ _ => trivial)) (by exact congrArg (t2 · _) (dsf_of rfl rfl rfl fun _ => rfl)) (by exact sc_t2 (sc_ds _ _ _ _) trivial))
  obtain ⟨N, rfl⟩ : ∃ N : Nat, n = N := ⟨n.toNat, by simp at hc; omega⟩
  have hN : 1 ≤ N ∧ N ≤ 16 := by simp at hc; omega
  have e : chainR N = t2 (ds_ N (chainB N (N - 1)) (chainW N (N - 1))) (.i .i64 0) := by unfold chainR; rw [if_pos (by omega)]; rfl
  refine WP.rw ?_
  refine WPL.run T false 1 tok (by rfl) (by first | trivial | (simp only [Int.toNat_natCast, List.nil_append, List.cons_append, List.append_nil, AllP, plE, InR, Root.holds] <;> and_intros <;> first | omega | assumption | exact rfl | trivial | exact pl_ds _ _ _ | exact pl_st3 trivial (pl_pl _) (pl_pl _) | exact fun _ _ => trivial)) ?_
  refine WPL.call (l01Chain_fn N hN.1 hN.2) (by rfl) (by rfl) (by rfl) (by simp [Sc, sc_pl, sc_ds, pl_ne, ds_ne]) ?_
  refine WPL.fin T false tok (by rfl) (by first | trivial | (simp only [Int.toNat_natCast, List.nil_append, List.cons_append, List.append_nil, AllP, plE, InR, Root.holds] <;> and_intros <;> first | omega | assumption | exact rfl | trivial | exact pl_ds _ _ _ | exact pl_st3 trivial (pl_pl _) (pl_pl _) | exact fun _ _ => trivial)) ?_
  rw [e]
  exact WP.ret (Ends.val (by rfl) (by first | trivial | (simp only [Int.toNat_natCast, List.nil_append, List.cons_append, List.append_nil, AllP, plE, InR, Root.holds] <;> and_intros <;> first | omega | assumption | exact rfl | trivial | exact pl_ds _ _ _ | exact pl_st3 trivial (pl_pl _) (pl_pl _) | exact fun _ _ => trivial)) (by rfl) (by exact sc_t2 (sc_ds _ _ _ _) trivial))

theorem implChain_fn (n : Int) : FnP Try.prog 28 [.i .i64 n] (chainR n) := by
  refine FnS.into T tok Try.func28 (by rfl) rfl rfl rfl (by simp) ?_
  refine WP.rs T false tok (by rfl) (by first | trivial | (simp only [Int.toNat_natCast, List.nil_append, List.cons_append, List.append_nil, AllP, plE, InR, Root.holds] <;> and_intros <;> first | omega | assumption | exact rfl | trivial | exact pl_ds _ _ _ | exact pl_st3 trivial (pl_pl _) (pl_pl _) | exact fun _ _ => trivial)) ?_
  refine WP.seq ?_
  refine WP.rw ?_
  refine WPL.run T false 1 tok (by rfl) (by first | trivial | (simp only [Int.toNat_natCast, List.nil_append, List.cons_append, List.append_nil, AllP, plE, InR, Root.holds] <;> and_intros <;> first | omega | assumption | exact rfl | trivial | exact pl_ds _ _ _ | exact pl_st3 trivial (pl_pl _) (pl_pl _) | exact fun _ _ => trivial)) ?_
  refine WPL.call (isSize_fn n) (by rfl) (by rfl) (by rfl) (by simp [Sc, sc_pl, sc_ds, pl_ne, ds_ne]) ?_
  refine WPL.fin T false tok (by rfl) (by first | trivial | (simp only [Int.toNat_natCast, List.nil_append, List.cons_append, List.append_nil, AllP, plE, InR, Root.holds] <;> and_intros <;> first | omega | assumption | exact rfl | trivial | exact pl_ds _ _ _ | exact pl_st3 trivial (pl_pl _) (pl_pl _) | exact fun _ _ => trivial)) ?_
  refine WP.cond (by rfl) (fun hc => ?_) (fun hc => WP.skip ?_)
  · have e : chainR n = t2 (ds_ 0 (fun _ => 0) (fun _ => 0)) (.i .i64 2) := by unfold chainR; rw [if_neg (by simp at hc; omega)]
    refine WP.rs T false tok (by rfl) (by first | trivial | (simp only [Int.toNat_natCast, List.nil_append, List.cons_append, List.append_nil, AllP, plE, InR, Root.holds] <;> and_intros <;> first | omega | assumption | exact rfl | trivial | exact pl_ds _ _ _ | exact pl_st3 trivial (pl_pl _) (pl_pl _) | exact fun _ _ => trivial)) ?_
    rw [e]
    exact WP.ret (Ends.val (by rfl) (by first | trivial | (simp only [Int.toNat_natCast, List.nil_append, List.cons_append, List.append_nil, AllP, plE, InR, Root.holds] <;> and_intros <;> first | omega | assumption | exact rfl | trivial | exact pl_ds _ _ _ | exact pl_st3 trivial (pl_pl _) (pl_pl _) | exact fun _ _ => trivial)) (by exact congrArg (t2 · _) (dsf_of rfl rfl rfl fun _ => rfl)) (by exact sc_t2 (sc_ds _ _ _ _) trivial))
  obtain ⟨n, rfl⟩ : ∃ N : Nat, n = N := ⟨n.toNat, by simp at hc; omega⟩
  have hN : 1 ≤ n ∧ n ≤ 16 := by simp at hc; omega
  have e : chainR n = t2 (ds_ n (chainB n (n - 1)) (chainW n (n - 1))) (.i .i64 0) := by unfold chainR; rw [if_pos (by omega)]; rfl
  rw [e]
  clear hc
  refine WP.rw ?_
  refine WPL.run T false 2 tok (by rfl) (by first | trivial | (simp only [Int.toNat_natCast, List.nil_append, List.cons_append, List.append_nil, AllP, plE, InR, Root.holds] <;> and_intros <;> first | omega | assumption | exact rfl | trivial | exact pl_ds _ _ _ | exact pl_st3 trivial (pl_pl _) (pl_pl _) | exact fun _ _ => trivial)) ?_
  refine WPL.call (same_fn n hN.2) (by rfl) (by rfl) (by rfl) (by simp [Sc, sc_pl, sc_ds, pl_ne, ds_ne]) ?_
  refine WPL.run T false 1 tok (by rfl) (by first | trivial | (simp only [Int.toNat_natCast, List.nil_append, List.cons_append, List.append_nil, AllP, plE, InR, Root.holds] <;> and_intros <;> first | omega | assumption | exact rfl | trivial | exact pl_ds _ _ _ | exact pl_st3 trivial (pl_pl _) (pl_pl _) | exact fun _ _ => trivial)) ?_
  refine WPL.call (same_fn n hN.2) (by rfl) (by rfl) (by rfl) (by simp [Sc, sc_pl, sc_ds, pl_ne, ds_ne]) ?_
  refine WPL.fin T false tok (by rfl) (by first | trivial | (simp only [Int.toNat_natCast, List.nil_append, List.cons_append, List.append_nil, AllP, plE, InR, Root.holds] <;> and_intros <;> first | omega | assumption | exact rfl | trivial | exact pl_ds _ _ _ | exact pl_st3 trivial (pl_pl _) (pl_pl _) | exact fun _ _ => trivial)) ?_
  refine WP.seq ?_
  refine WP.rs T false tok (by rfl) (by first | trivial | (simp only [Int.toNat_natCast, List.nil_append, List.cons_append, List.append_nil, AllP, plE, InR, Root.holds] <;> and_intros <;> first | omega | assumption | exact rfl | trivial | exact pl_ds _ _ _ | exact pl_st3 trivial (pl_pl _) (pl_pl _) | exact fun _ _ => trivial)) ?_
  refine WP.block ?_
  refine WP.loopS [5, 6, 19, 20, 21, 22, 23, 24, 25, 26, 27, 28, 29, 30, 31, 32, 33, 34, 35, 36, 37, 38, 39, 40, 41] (fun k : Nat => k ≤ n - 1) (fun k => [(19, .i .i64 k)]) (fun k => [.var (ds_ 0 (fun _ => 0) (fun _ => 0)), .var (ds_ n (chainB n k) (chainW n k))]) (fun k => n - k) 0 (by omega) (by rfl) (mem2 (dsf_of rfl rfl rfl fun _ => rfl) (dsf_of rfl rfl rfl fun _ => rfl)) ?_
  intro k hk g
  refine WP.rs T false tok (by rfl) (by first | trivial | (simp only [Int.toNat_natCast, List.nil_append, List.cons_append, List.append_nil, AllP, plE, InR, Root.holds] <;> and_intros <;> first | omega | assumption | exact rfl | trivial | exact pl_ds _ _ _ | exact pl_st3 trivial (pl_pl _) (pl_pl _) | exact fun _ _ => trivial)) ?_
  refine WP.seq ?_
  refine WP.cond (by rfl) (fun hc => WP.skip ?_) (fun hc => WP.exit ?_)
  · have hk : k + 1 < n := by have := of_decide_eq_true hc; omega
    refine WP.seq (WP.block ?_)
    refine WP.rs T false tok (by rfl) (by first | trivial | (simp only [Int.toNat_natCast, List.nil_append, List.cons_append, List.append_nil, AllP, plE, InR, Root.holds] <;> and_intros <;> first | omega | assumption | exact rfl | trivial | exact pl_ds _ _ _ | exact pl_st3 trivial (pl_pl _) (pl_pl _) | exact fun _ _ => trivial)) ?_
    refine WP.rs T false tok (by rfl) (by first | trivial | (simp only [Int.toNat_natCast, List.nil_append, List.cons_append, List.append_nil, AllP, plE, InR, Root.holds] <;> and_intros <;> first | omega | assumption | exact rfl | trivial | exact pl_ds _ _ _ | exact pl_st3 trivial (pl_pl _) (pl_pl _) | exact fun _ _ => trivial)) ?_
    refine WP.seq ?_
    refine WP.rs T false tok (by rfl) (by first | trivial | (simp only [Int.toNat_natCast, List.nil_append, List.cons_append, List.append_nil, AllP, plE, InR, Root.holds] <;> and_intros <;> first | omega | assumption | exact rfl | trivial | exact pl_ds _ _ _ | exact pl_st3 trivial (pl_pl _) (pl_pl _) | exact fun _ _ => trivial)) ?_
    refine WP.cond (by rfl) (fun h2 => ?_) (fun h2 => WP.skip ?_)
    · have h2 : ¬ k % 2 = 0 := by have := of_decide_eq_true h2; rw [tmod2] at this; omega
      refine WP.run T false tok (by rfl) (by first | trivial | (simp only [Int.toNat_natCast, List.nil_append, List.cons_append, List.append_nil, AllP, plE, InR, Root.holds] <;> and_intros <;> first | omega | assumption | exact rfl | trivial | exact pl_ds _ _ _ | exact pl_st3 trivial (pl_pl _) (pl_pl _) | exact fun _ _ => trivial)) ?_
      refine WP.rs T false tok (by rfl) (by first | trivial | (simp only [Int.toNat_natCast, List.nil_append, List.cons_append, List.append_nil, AllP, plE, InR, Root.holds] <;> and_intros <;> first | omega | assumption | exact rfl | trivial | exact pl_ds _ _ _ | exact pl_st3 trivial (pl_pl _) (pl_pl _) | exact fun _ _ => trivial)) ?_
      refine WP.mem (by simp only [upd, pl, dsf, cast1, Int.toNat_natCast, fup_u8, fup_b, fup_i64, dsf_up0, dsf_up1, dsf_up2]; rfl) ?_
      refine WP.run T false tok (by rfl) (by first | trivial | (simp only [Int.toNat_natCast, List.nil_append, List.cons_append, List.append_nil, AllP, plE, InR, Root.holds] <;> and_intros <;> first | omega | assumption | exact rfl | trivial | exact pl_ds _ _ _ | exact pl_st3 trivial (pl_pl _) (pl_pl _) | exact fun _ _ => trivial)) ?_
      refine WP.run T false tok (by rfl) (by first | trivial | (simp only [Int.toNat_natCast, List.nil_append, List.cons_append, List.append_nil, AllP, plE, InR, Root.holds] <;> and_intros <;> first | omega | assumption | exact rfl | trivial | exact pl_ds _ _ _ | exact pl_st3 trivial (pl_pl _) (pl_pl _) | exact fun _ _ => trivial)) ?_
      refine ⟨k + 1, by omega, by omega, by (dsimp only; (repeat (first | (with_reducible exact Agree.refl) | ((with_reducible refine Agree.hd ?_); exact rfl) | ((with_reducible refine Agree.fup ?_ ?_); exact rfl) | ((with_reducible refine Agree.inner ?_ ?_ ?_); exact rfl; exact rfl)))), by first | rfl | simp [Slots], by first | rfl | (simp only [upd, pl, dsf, cast1, Int.toNat_natCast, fup_u8, fup_b, fup_i64, dsf_up0, dsf_up1, dsf_up2]; done) | (simp only [upd, pl, dsf, cast1, Int.toNat_natCast, fup_u8, fup_b, fup_i64, dsf_up0, dsf_up1, dsf_up2]; first | ((simp only [chainB, chainW, if_neg h2]); done) | ((simp only [chainB, chainW, if_neg h2]); rfl))⟩
    · have h2 : k % 2 = 0 := by have := of_decide_eq_false h2; rw [tmod2] at this; omega
      refine WP.rs T false tok (by rfl) (by first | trivial | (simp only [Int.toNat_natCast, List.nil_append, List.cons_append, List.append_nil, AllP, plE, InR, Root.holds] <;> and_intros <;> first | omega | assumption | exact rfl | trivial | exact pl_ds _ _ _ | exact pl_st3 trivial (pl_pl _) (pl_pl _) | exact fun _ _ => trivial)) ?_
      refine WP.mem (by simp only [upd, pl, dsf, cast1, Int.toNat_natCast, fup_u8, fup_b, fup_i64, dsf_up0, dsf_up1, dsf_up2]; rfl) ?_
      refine WP.run T false tok (by rfl) (by first | trivial | (simp only [Int.toNat_natCast, List.nil_append, List.cons_append, List.append_nil, AllP, plE, InR, Root.holds] <;> and_intros <;> first | omega | assumption | exact rfl | trivial | exact pl_ds _ _ _ | exact pl_st3 trivial (pl_pl _) (pl_pl _) | exact fun _ _ => trivial)) ?_
      refine WP.run T false tok (by rfl) (by first | trivial | (simp only [Int.toNat_natCast, List.nil_append, List.cons_append, List.append_nil, AllP, plE, InR, Root.holds] <;> and_intros <;> first | omega | assumption | exact rfl | trivial | exact pl_ds _ _ _ | exact pl_st3 trivial (pl_pl _) (pl_pl _) | exact fun _ _ => trivial)) ?_
      refine ⟨k + 1, by omega, by omega, by (dsimp only; (repeat (first | (with_reducible exact Agree.refl) | ((with_reducible refine Agree.hd ?_); exact rfl) | ((with_reducible refine Agree.fup ?_ ?_); exact rfl) | ((with_reducible refine Agree.inner ?_ ?_ ?_); exact rfl; exact rfl)))), by first | rfl | simp [Slots], by first | rfl | (simp only [upd, pl, dsf, cast1, Int.toNat_natCast, fup_u8, fup_b, fup_i64, dsf_up0, dsf_up1, dsf_up2]; done) | (simp only [upd, pl, dsf, cast1, Int.toNat_natCast, fup_u8, fup_b, fup_i64, dsf_up0, dsf_up1, dsf_up2]; first | ((simp only [chainB, chainW, if_pos h2]); done) | ((simp only [chainB, chainW, if_pos h2]); rfl))⟩
  · have hk : k = n - 1 := by have := of_decide_eq_false hc; omega
    subst hk
    refine WP.rs T false tok (by rfl) (by first | trivial | (simp only [Int.toNat_natCast, List.nil_append, List.cons_append, List.append_nil, AllP, plE, InR, Root.holds] <;> and_intros <;> first | omega | assumption | exact rfl | trivial | exact pl_ds _ _ _ | exact pl_st3 trivial (pl_pl _) (pl_pl _) | exact fun _ _ => trivial)) ?_
    exact WP.ret (Ends.val (by rfl) (by first | trivial | (simp only [Int.toNat_natCast, List.nil_append, List.cons_append, List.append_nil, AllP, plE, InR, Root.holds] <;> and_intros <;> first | omega | assumption | exact rfl | trivial | exact pl_ds _ _ _ | exact pl_st3 trivial (pl_pl _) (pl_pl _) | exact fun _ _ => trivial)) (by rfl) (by exact sc_t2 (sc_ds _ _ _ _) trivial))

theorem law_ChainDessin (n : Int) : FnP Try.prog 8 [.i .i64 n] (.b true) := by
  obtain ⟨m, b, w, c, e⟩ := chainR_form n
  have h1 := specChain_fn n
  have h2 := implChain_fn n
  rw [e] at h1 h2
  refine FnS.into T tok Try.func8 (by rfl) rfl rfl rfl (by simp) ?_
  refine WP.rs T false tok (by rfl) (by first | trivial | (simp only [Int.toNat_natCast, List.nil_append, List.cons_append, List.append_nil, AllP, plE, InR, Root.holds] <;> and_intros <;> first | omega | assumption | exact rfl | trivial | exact pl_ds _ _ _ | exact pl_st3 trivial (pl_pl _) (pl_pl _) | exact fun _ _ => trivial)) ?_
  refine WP.rw ?_
  refine WPL.run T false 1 tok (by rfl) (by first | trivial | (simp only [Int.toNat_natCast, List.nil_append, List.cons_append, List.append_nil, AllP, plE, InR, Root.holds] <;> and_intros <;> first | omega | assumption | exact rfl | trivial | exact pl_ds _ _ _ | exact pl_st3 trivial (pl_pl _) (pl_pl _) | exact fun _ _ => trivial)) ?_
  refine WPL.call (h1) (by rfl) (by rfl) (by rfl) (by simp [Sc, sc_pl, sc_ds, pl_ne, ds_ne]) ?_
  refine WPL.fin T false tok (by rfl) (by first | trivial | (simp only [Int.toNat_natCast, List.nil_append, List.cons_append, List.append_nil, AllP, plE, InR, Root.holds] <;> and_intros <;> first | omega | assumption | exact rfl | trivial | exact pl_ds _ _ _ | exact pl_st3 trivial (pl_pl _) (pl_pl _) | exact fun _ _ => trivial)) ?_
  refine WP.rw ?_
  refine WPL.run T false 1 tok (by rfl) (by first | trivial | (simp only [Int.toNat_natCast, List.nil_append, List.cons_append, List.append_nil, AllP, plE, InR, Root.holds] <;> and_intros <;> first | omega | assumption | exact rfl | trivial | exact pl_ds _ _ _ | exact pl_st3 trivial (pl_pl _) (pl_pl _) | exact fun _ _ => trivial)) ?_
  refine WPL.call (h2) (by rfl) (by rfl) (by rfl) (by simp [Sc, sc_pl, sc_ds, pl_ne, ds_ne]) ?_
  refine WPL.fin T false tok (by rfl) (by first | trivial | (simp only [Int.toNat_natCast, List.nil_append, List.cons_append, List.append_nil, AllP, plE, InR, Root.holds] <;> and_intros <;> first | omega | assumption | exact rfl | trivial | exact pl_ds _ _ _ | exact pl_st3 trivial (pl_pl _) (pl_pl _) | exact fun _ _ => trivial)) ?_
  refine WP.seq ?_
  refine WP.rw ?_
  refine WPL.run T false 2 tok (by rfl) (by first | trivial | (simp only [Int.toNat_natCast, List.nil_append, List.cons_append, List.append_nil, AllP, plE, InR, Root.holds] <;> and_intros <;> first | omega | assumption | exact rfl | trivial | exact pl_ds _ _ _ | exact pl_st3 trivial (pl_pl _) (pl_pl _) | exact fun _ _ => trivial)) ?_
  refine WPL.call (eqDessin_same m b w) (by rfl) (by rfl) (by rfl) (by simp [Sc, sc_pl, sc_ds, pl_ne, ds_ne]) ?_
  refine WPL.fin T false tok (by rfl) (by first | trivial | (simp only [Int.toNat_natCast, List.nil_append, List.cons_append, List.append_nil, AllP, plE, InR, Root.holds] <;> and_intros <;> first | omega | assumption | exact rfl | trivial | exact pl_ds _ _ _ | exact pl_st3 trivial (pl_pl _) (pl_pl _) | exact fun _ _ => trivial)) ?_
  refine WP.cond (by rfl) (fun hc => ?_) (fun hc => WP.skip ?_)
  · simp at hc
  · refine WP.rs T false tok (by rfl) (by first | trivial | (simp only [Int.toNat_natCast, List.nil_append, List.cons_append, List.append_nil, AllP, plE, InR, Root.holds] <;> and_intros <;> first | omega | assumption | exact rfl | trivial | exact pl_ds _ _ _ | exact pl_st3 trivial (pl_pl _) (pl_pl _) | exact fun _ _ => trivial)) ?_
    exact WP.ret (Ends.val (by rfl) (by first | trivial | (simp only [Int.toNat_natCast, List.nil_append, List.cons_append, List.append_nil, AllP, plE, InR, Root.holds] <;> and_intros <;> first | omega | assumption | exact rfl | trivial | exact pl_ds _ _ _ | exact pl_st3 trivial (pl_pl _) (pl_pl _) | exact fun _ _ => trivial)) (by rfl) (by trivial))

/-! ### The permutation that leads back -/
noncomputable def backR (p : Nat → Nat) (n : Int) : Dat := if permB p n = true then t2 (pl (backTo p n.toNat)) (.i .i64 0) else t2 (pl fun _ => 0) (.i .i64 1)
theorem backR_form (p : Nat → Nat) (n : Int) : ∃ q c, backR p n = t2 (pl q) (.i .i64 c) := by
  unfold backR; split <;> exact ⟨_, _, rfl⟩

theorem specBack_fn (p : Nat → Nat) (hb : ∀ i, p i < 256) (n : Int) : FnP Try.prog 31 [pl p, .i .i64 n] (backR p n) := by
  refine FnS.into T tok Try.func31 (by rfl) rfl rfl rfl (by simp) ?_
  refine WP.rs T false tok (by rfl) (by first | trivial | (simp only [Int.toNat_natCast, List.nil_append, List.cons_append, List.append_nil, AllP, plE, InR, Root.holds] <;> and_intros <;> first | omega | assumption | exact rfl | trivial | exact pl_ds _ _ _ | exact pl_st3 trivial (pl_pl _) (pl_pl _) | exact fun _ _ => trivial)) ?_
  refine WP.seq ?_
  refine WP.rw ?_
  refine WPL.run T false 2 tok (by rfl) (by first | trivial | (simp only [Int.toNat_natCast, List.nil_append, List.cons_append, List.append_nil, AllP, plE, InR, Root.holds] <;> and_intros <;> first | omega | assumption | exact rfl | trivial | exact pl_ds _ _ _ | exact pl_st3 trivial (pl_pl _) (pl_pl _) | exact fun _ _ => trivial)) ?_
  refine WPL.call (l01Perm_fn p hb n) (by rfl) (by rfl) (by rfl) (by simp [Sc, sc_pl, sc_ds, pl_ne, ds_ne]) ?_
  refine WPL.fin T false tok (by rfl) (by first | trivial | (simp only [Int.toNat_natCast, List.nil_append, List.cons_append, List.append_nil, AllP, plE, InR, Root.holds] <;> and_intros <;> first | omega | assumption | exact rfl | trivial | exact pl_ds _ _ _ | exact pl_st3 trivial (pl_pl _) (pl_pl _) | exact fun _ _ => trivial)) ?_
  cases hc : permB p n
  · have e : backR p n = t2 (pl fun _ => 0) (.i .i64 1) := by unfold backR; rw [hc]; rfl
    refine WP.cond (by rfl) (fun h => ?_) (fun h => WP.skip ?_)
    · refine WP.rs T false tok (by rfl) (by first | trivial | (simp only [Int.toNat_natCast, List.nil_append, List.cons_append, List.append_nil, AllP, plE, InR, Root.holds] <;> and_intros <;> first | omega | assumption | exact rfl | trivial | exact pl_ds _ _ _ | exact pl_st3 trivial (pl_pl _) (pl_pl _) | exact fun _ _ => trivial)) ?_
      rw [e]
      exact WP.ret (Ends.val (by rfl) (by first | trivial | (simp only [Int.toNat_natCast, List.nil_append, List.cons_append, List.append_nil, AllP, plE, InR, Root.holds] <;> and_intros <;> first | omega | assumption | exact rfl | trivial | exact pl_ds _ _ _ | exact pl_st3 trivial (pl_pl _) (pl_pl _) | exact fun _ _ => trivial)) (by rfl) (by exact sc_t2 (sc_pl _ _) trivial))
    · cases h
  · obtain ⟨N, rfl, h1, h2, hp⟩ := perm_of_B hc
    have e : backR p N = t2 (pl (backTo p N)) (.i .i64 0) := by unfold backR; rw [hc]; rfl
    refine WP.cond (by rfl) (fun h => ?_) (fun h => WP.skip ?_)
    · cases h
    refine WP.rw ?_
    refine WPL.run T false 2 tok (by rfl) (by first | trivial | (simp only [Int.toNat_natCast, List.nil_append, List.cons_append, List.append_nil, AllP, plE, InR, Root.holds] <;> and_intros <;> first | omega | assumption | exact rfl | trivial | exact pl_ds _ _ _ | exact pl_st3 trivial (pl_pl _) (pl_pl _) | exact fun _ _ => trivial)) ?_
    refine WPL.call (l01Back_fn p N h2 hp.lt) (by rfl) (by rfl) (by rfl) (by simp [Sc, sc_pl, sc_ds, pl_ne, ds_ne]) ?_
    refine WPL.fin T false tok (by rfl) (by first | trivial | (simp only [Int.toNat_natCast, List.nil_append, List.cons_append, List.append_nil, AllP, plE, InR, Root.holds] <;> and_intros <;> first | omega | assumption | exact rfl | trivial | exact pl_ds _ _ _ | exact pl_st3 trivial (pl_pl _) (pl_pl _) | exact fun _ _ => trivial)) ?_
    rw [e]
    exact WP.ret (Ends.val (by rfl) (by first | trivial | (simp only [Int.toNat_natCast, List.nil_append, List.cons_append, List.append_nil, AllP, plE, InR, Root.holds] <;> and_intros <;> first | omega | assumption | exact rfl | trivial | exact pl_ds _ _ _ | exact pl_st3 trivial (pl_pl _) (pl_pl _) | exact fun _ _ => trivial)) (by rfl) (by exact sc_t2 (sc_pl _ _) trivial))

theorem implBack_fn (p : Nat → Nat) (hb : ∀ i, p i < 256) (n : Int) : FnP Try.prog 32 [pl p, .i .i64 n] (backR p n) := by
  refine FnS.into T tok Try.func32 (by rfl) rfl rfl rfl (by simp) ?_
  refine WP.rs T false tok (by rfl) (by first | trivial | (simp only [Int.toNat_natCast, List.nil_append, List.cons_append, List.append_nil, AllP, plE, InR, Root.holds] <;> and_intros <;> first | omega | assumption | exact rfl | trivial | exact pl_ds _ _ _ | exact pl_st3 trivial (pl_pl _) (pl_pl _) | exact fun _ _ => trivial)) ?_
  refine WP.seq ?_
  refine WP.rw ?_
  refine WPL.run T false 2 tok (by rfl) (by first | trivial | (simp only [Int.toNat_natCast, List.nil_append, List.cons_append, List.append_nil, AllP, plE, InR, Root.holds] <;> and_intros <;> first | omega | assumption | exact rfl | trivial | exact pl_ds _ _ _ | exact pl_st3 trivial (pl_pl _) (pl_pl _) | exact fun _ _ => trivial)) ?_
  refine WPL.call (IsPermutation_fn p hb n) (by rfl) (by rfl) (by rfl) (by simp [Sc, sc_pl, sc_ds, pl_ne, ds_ne]) ?_
  refine WPL.fin T false tok (by rfl) (by first | trivial | (simp only [Int.toNat_natCast, List.nil_append, List.cons_append, List.append_nil, AllP, plE, InR, Root.holds] <;> and_intros <;> first | omega | assumption | exact rfl | trivial | exact pl_ds _ _ _ | exact pl_st3 trivial (pl_pl _) (pl_pl _) | exact fun _ _ => trivial)) ?_
  cases hc : permB p n
  · have e : backR p n = t2 (pl fun _ => 0) (.i .i64 1) := by unfold backR; rw [hc]; rfl
    refine WP.cond (by rfl) (fun h => ?_) (fun h => WP.skip ?_)
    · refine WP.rs T false tok (by rfl) (by first | trivial | (simp only [Int.toNat_natCast, List.nil_append, List.cons_append, List.append_nil, AllP, plE, InR, Root.holds] <;> and_intros <;> first | omega | assumption | exact rfl | trivial | exact pl_ds _ _ _ | exact pl_st3 trivial (pl_pl _) (pl_pl _) | exact fun _ _ => trivial)) ?_
      rw [e]
      exact WP.ret (Ends.val (by rfl) (by first | trivial | (simp only [Int.toNat_natCast, List.nil_append, List.cons_append, List.append_nil, AllP, plE, InR, Root.holds] <;> and_intros <;> first | omega | assumption | exact rfl | trivial | exact pl_ds _ _ _ | exact pl_st3 trivial (pl_pl _) (pl_pl _) | exact fun _ _ => trivial)) (by rfl) (by exact sc_t2 (sc_pl _ _) trivial))
    · cases h
  · obtain ⟨N, rfl, h1, h2, hp⟩ := perm_of_B hc
    have e : backR p N = t2 (pl (backTo p N)) (.i .i64 0) := by unfold backR; rw [hc]; rfl
    refine WP.cond (by rfl) (fun h => ?_) (fun h => WP.skip ?_)
    · cases h
    refine WP.rw ?_
    refine WPL.run T false 2 tok (by rfl) (by first | trivial | (simp only [Int.toNat_natCast, List.nil_append, List.cons_append, List.append_nil, AllP, plE, InR, Root.holds] <;> and_intros <;> first | omega | assumption | exact rfl | trivial | exact pl_ds _ _ _ | exact pl_st3 trivial (pl_pl _) (pl_pl _) | exact fun _ _ => trivial)) ?_
    refine WPL.call (back_fn p N h2 hp.lt) (by rfl) (by rfl) (by rfl) (by simp [Sc, sc_pl, sc_ds, pl_ne, ds_ne]) ?_
    refine WPL.fin T false tok (by rfl) (by first | trivial | (simp only [Int.toNat_natCast, List.nil_append, List.cons_append, List.append_nil, AllP, plE, InR, Root.holds] <;> and_intros <;> first | omega | assumption | exact rfl | trivial | exact pl_ds _ _ _ | exact pl_st3 trivial (pl_pl _) (pl_pl _) | exact fun _ _ => trivial)) ?_
    rw [e]
    exact WP.ret (Ends.val (by rfl) (by first | trivial | (simp only [Int.toNat_natCast, List.nil_append, List.cons_append, List.append_nil, AllP, plE, InR, Root.holds] <;> and_intros <;> first | omega | assumption | exact rfl | trivial | exact pl_ds _ _ _ | exact pl_st3 trivial (pl_pl _) (pl_pl _) | exact fun _ _ => trivial)) (by rfl) (by exact sc_t2 (sc_pl _ _) trivial))

theorem law_BackPlaces (p : Nat → Nat) (hb : ∀ i, p i < 256) (n : Int) : FnP Try.prog 10 [pl p, .i .i64 n] (.b true) := by
  have hb' : ∀ i, (fun i => if i < 16 then p i else 0) i < 256 := fun i => by dsimp only; split; exact hb i; omega
  obtain ⟨q, c, e⟩ := backR_form (fun i => if i < 16 then p i else 0) n
  have h1 := specBack_fn _ hb' n
  have h2 := implBack_fn _ hb' n
  rw [e] at h1 h2
  refine FnS.into T tok Try.func10 (by rfl) rfl rfl rfl (by simp) ?_
  refine WP.rs T false tok (by rfl) (by first | trivial | (simp only [Int.toNat_natCast, List.nil_append, List.cons_append, List.append_nil, AllP, plE, InR, Root.holds] <;> and_intros <;> first | omega | assumption | exact rfl | trivial | exact pl_ds _ _ _ | exact pl_st3 trivial (pl_pl _) (pl_pl _) | exact fun _ _ => trivial)) ?_
  refine WP.rw ?_
  refine WPL.run T false 1 tok (by rfl) (by first | trivial | (simp only [Int.toNat_natCast, List.nil_append, List.cons_append, List.append_nil, AllP, plE, InR, Root.holds] <;> and_intros <;> first | omega | assumption | exact rfl | trivial | exact pl_ds _ _ _ | exact pl_st3 trivial (pl_pl _) (pl_pl _) | exact fun _ _ => trivial)) ?_
  refine WPL.call (toPlaces_fn p) (by rfl) (by rfl) (by rfl) (by simp [Sc, sc_pl, sc_ds, pl_ne, ds_ne]) ?_
  refine WPL.run T false 1 tok (by rfl) (by first | trivial | (simp only [Int.toNat_natCast, List.nil_append, List.cons_append, List.append_nil, AllP, plE, InR, Root.holds] <;> and_intros <;> first | omega | assumption | exact rfl | trivial | exact pl_ds _ _ _ | exact pl_st3 trivial (pl_pl _) (pl_pl _) | exact fun _ _ => trivial)) ?_
  refine WPL.call (h1) (by rfl) (by rfl) (by rfl) (by simp [Sc, sc_pl, sc_ds, pl_ne, ds_ne]) ?_
  refine WPL.fin T false tok (by rfl) (by first | trivial | (simp only [Int.toNat_natCast, List.nil_append, List.cons_append, List.append_nil, AllP, plE, InR, Root.holds] <;> and_intros <;> first | omega | assumption | exact rfl | trivial | exact pl_ds _ _ _ | exact pl_st3 trivial (pl_pl _) (pl_pl _) | exact fun _ _ => trivial)) ?_
  refine WP.rw ?_
  refine WPL.run T false 1 tok (by rfl) (by first | trivial | (simp only [Int.toNat_natCast, List.nil_append, List.cons_append, List.append_nil, AllP, plE, InR, Root.holds] <;> and_intros <;> first | omega | assumption | exact rfl | trivial | exact pl_ds _ _ _ | exact pl_st3 trivial (pl_pl _) (pl_pl _) | exact fun _ _ => trivial)) ?_
  refine WPL.call (toPlaces_fn p) (by rfl) (by rfl) (by rfl) (by simp [Sc, sc_pl, sc_ds, pl_ne, ds_ne]) ?_
  refine WPL.run T false 1 tok (by rfl) (by first | trivial | (simp only [Int.toNat_natCast, List.nil_append, List.cons_append, List.append_nil, AllP, plE, InR, Root.holds] <;> and_intros <;> first | omega | assumption | exact rfl | trivial | exact pl_ds _ _ _ | exact pl_st3 trivial (pl_pl _) (pl_pl _) | exact fun _ _ => trivial)) ?_
  refine WPL.call (h2) (by rfl) (by rfl) (by rfl) (by simp [Sc, sc_pl, sc_ds, pl_ne, ds_ne]) ?_
  refine WPL.fin T false tok (by rfl) (by first | trivial | (simp only [Int.toNat_natCast, List.nil_append, List.cons_append, List.append_nil, AllP, plE, InR, Root.holds] <;> and_intros <;> first | omega | assumption | exact rfl | trivial | exact pl_ds _ _ _ | exact pl_st3 trivial (pl_pl _) (pl_pl _) | exact fun _ _ => trivial)) ?_
  refine WP.seq ?_
  refine WP.rw ?_
  refine WPL.run T false 2 tok (by rfl) (by first | trivial | (simp only [Int.toNat_natCast, List.nil_append, List.cons_append, List.append_nil, AllP, plE, InR, Root.holds] <;> and_intros <;> first | omega | assumption | exact rfl | trivial | exact pl_ds _ _ _ | exact pl_st3 trivial (pl_pl _) (pl_pl _) | exact fun _ _ => trivial)) ?_
  refine WPL.call (eqPlaces_same q) (by rfl) (by rfl) (by rfl) (by simp [Sc, sc_pl, sc_ds, pl_ne, ds_ne]) ?_
  refine WPL.fin T false tok (by rfl) (by first | trivial | (simp only [Int.toNat_natCast, List.nil_append, List.cons_append, List.append_nil, AllP, plE, InR, Root.holds] <;> and_intros <;> first | omega | assumption | exact rfl | trivial | exact pl_ds _ _ _ | exact pl_st3 trivial (pl_pl _) (pl_pl _) | exact fun _ _ => trivial)) ?_
  refine WP.cond (by rfl) (fun hc => ?_) (fun hc => WP.skip ?_)
  · simp at hc
  · refine WP.rs T false tok (by rfl) (by first | trivial | (simp only [Int.toNat_natCast, List.nil_append, List.cons_append, List.append_nil, AllP, plE, InR, Root.holds] <;> and_intros <;> first | omega | assumption | exact rfl | trivial | exact pl_ds _ _ _ | exact pl_st3 trivial (pl_pl _) (pl_pl _) | exact fun _ _ => trivial)) ?_
    exact WP.ret (Ends.val (by rfl) (by first | trivial | (simp only [Int.toNat_natCast, List.nil_append, List.cons_append, List.append_nil, AllP, plE, InR, Root.holds] <;> and_intros <;> first | omega | assumption | exact rfl | trivial | exact pl_ds _ _ _ | exact pl_st3 trivial (pl_pl _) (pl_pl _) | exact fun _ _ => trivial)) (by rfl) (by trivial))

end Go.Proofs.Ytjkojpmocgnkhaa
