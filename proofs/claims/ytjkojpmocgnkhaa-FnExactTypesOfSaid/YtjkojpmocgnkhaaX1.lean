import Derived.Test.YtjkojpmocgnkhaaL0
namespace Go.Proofs.Ytjkojpmocgnkhaa
open Go.RowKit DM
set_option linter.unusedSimpArgs false
set_option linter.unusedVariables false
set_option maxRecDepth 100000
set_option maxHeartbeats 1000000
theorem l01In_fn (n lo hi : Int) : FnP Try.prog 46 [.i .i64 n, .i .i64 lo, .i .i64 hi] (.b (decide (lo ≤ n) && decide (n ≤ hi))) := by
  refine FnS.into T tok Try.func46 (by rfl) rfl rfl rfl (by simp) ?_
  refine WP.rs T false tok (by rfl) (by first | trivial | (simp only [Int.toNat_natCast, addrAt0, List.nil_append, List.cons_append, List.append_nil, AllP, plE, InR, Root.holds, Root.readL] <;> and_intros <;> first | omega | assumption | (show _ ≤ _; omega) | (show _ < _; omega) | (show _ ≠ _; omega) | exact rfl | trivial | exact pl_ds _ _ _ | exact pl_st3 trivial (pl_pl _) (pl_pl _) | exact fun _ _ => trivial)) ?_
  refine WP.rw ?_
  refine WPL.run T false 4 tok (by rfl) (by first | trivial | (simp only [Int.toNat_natCast, addrAt0, List.nil_append, List.cons_append, List.append_nil, AllP, plE, InR, Root.holds, Root.readL] <;> and_intros <;> first | omega | assumption | (show _ ≤ _; omega) | (show _ < _; omega) | (show _ ≠ _; omega) | exact rfl | trivial | exact pl_ds _ _ _ | exact pl_st3 trivial (pl_pl _) (pl_pl _) | exact fun _ _ => trivial)) ?_
  cases hc : decide (lo ≤ n)
  · refine WPL.fin T false tok (by rfl) (by first | trivial | (simp only [Int.toNat_natCast, addrAt0, List.nil_append, List.cons_append, List.append_nil, AllP, plE, InR, Root.holds, Root.readL] <;> and_intros <;> first | omega | assumption | (show _ ≤ _; omega) | (show _ < _; omega) | (show _ ≠ _; omega) | exact rfl | trivial | exact pl_ds _ _ _ | exact pl_st3 trivial (pl_pl _) (pl_pl _) | exact fun _ _ => trivial)) ?_
    exact WP.ret (Ends.val (by rfl) (by first | trivial | (simp only [Int.toNat_natCast, addrAt0, List.nil_append, List.cons_append, List.append_nil, AllP, plE, InR, Root.holds, Root.readL] <;> and_intros <;> first | omega | assumption | (show _ ≤ _; omega) | (show _ < _; omega) | (show _ ≠ _; omega) | exact rfl | trivial | exact pl_ds _ _ _ | exact pl_st3 trivial (pl_pl _) (pl_pl _) | exact fun _ _ => trivial)) (by rfl) (by trivial))
  · refine WPL.fin T false tok (by rfl) (by first | trivial | (simp only [Int.toNat_natCast, addrAt0, List.nil_append, List.cons_append, List.append_nil, AllP, plE, InR, Root.holds, Root.readL] <;> and_intros <;> first | omega | assumption | (show _ ≤ _; omega) | (show _ < _; omega) | (show _ ≠ _; omega) | exact rfl | trivial | exact pl_ds _ _ _ | exact pl_st3 trivial (pl_pl _) (pl_pl _) | exact fun _ _ => trivial)) ?_
    exact WP.ret (Ends.val (by rfl) (by first | trivial | (simp only [Int.toNat_natCast, addrAt0, List.nil_append, List.cons_append, List.append_nil, AllP, plE, InR, Root.holds, Root.readL] <;> and_intros <;> first | omega | assumption | (show _ ≤ _; omega) | (show _ < _; omega) | (show _ ≠ _; omega) | exact rfl | trivial | exact pl_ds _ _ _ | exact pl_st3 trivial (pl_pl _) (pl_pl _) | exact fun _ _ => trivial)) (by rfl) (by trivial))

theorem isSize_fn (n : Int) : FnP Try.prog 50 [.i .i64 n] (.b (decide (1 ≤ n) && decide (n ≤ 16))) := by
  refine FnS.into T tok Try.func50 (by rfl) rfl rfl rfl (by simp) ?_
  refine WP.rs T false tok (by rfl) (by first | trivial | (simp only [Int.toNat_natCast, addrAt0, List.nil_append, List.cons_append, List.append_nil, AllP, plE, InR, Root.holds, Root.readL] <;> and_intros <;> first | omega | assumption | (show _ ≤ _; omega) | (show _ < _; omega) | (show _ ≠ _; omega) | exact rfl | trivial | exact pl_ds _ _ _ | exact pl_st3 trivial (pl_pl _) (pl_pl _) | exact fun _ _ => trivial)) ?_
  refine WP.rw ?_
  refine WPL.run T false 3 tok (by rfl) (by first | trivial | (simp only [Int.toNat_natCast, addrAt0, List.nil_append, List.cons_append, List.append_nil, AllP, plE, InR, Root.holds, Root.readL] <;> and_intros <;> first | omega | assumption | (show _ ≤ _; omega) | (show _ < _; omega) | (show _ ≠ _; omega) | exact rfl | trivial | exact pl_ds _ _ _ | exact pl_st3 trivial (pl_pl _) (pl_pl _) | exact fun _ _ => trivial)) ?_
  cases hc : decide (1 ≤ n)
  · refine WPL.fin T false tok (by rfl) (by first | trivial | (simp only [Int.toNat_natCast, addrAt0, List.nil_append, List.cons_append, List.append_nil, AllP, plE, InR, Root.holds, Root.readL] <;> and_intros <;> first | omega | assumption | (show _ ≤ _; omega) | (show _ < _; omega) | (show _ ≠ _; omega) | exact rfl | trivial | exact pl_ds _ _ _ | exact pl_st3 trivial (pl_pl _) (pl_pl _) | exact fun _ _ => trivial)) ?_
    exact WP.ret (Ends.val (by rfl) (by first | trivial | (simp only [Int.toNat_natCast, addrAt0, List.nil_append, List.cons_append, List.append_nil, AllP, plE, InR, Root.holds, Root.readL] <;> and_intros <;> first | omega | assumption | (show _ ≤ _; omega) | (show _ < _; omega) | (show _ ≠ _; omega) | exact rfl | trivial | exact pl_ds _ _ _ | exact pl_st3 trivial (pl_pl _) (pl_pl _) | exact fun _ _ => trivial)) (by rfl) (by trivial))
  · refine WPL.fin T false tok (by rfl) (by first | trivial | (simp only [Int.toNat_natCast, addrAt0, List.nil_append, List.cons_append, List.append_nil, AllP, plE, InR, Root.holds, Root.readL] <;> and_intros <;> first | omega | assumption | (show _ ≤ _; omega) | (show _ < _; omega) | (show _ ≠ _; omega) | exact rfl | trivial | exact pl_ds _ _ _ | exact pl_st3 trivial (pl_pl _) (pl_pl _) | exact fun _ _ => trivial)) ?_
    exact WP.ret (Ends.val (by rfl) (by first | trivial | (simp only [Int.toNat_natCast, addrAt0, List.nil_append, List.cons_append, List.append_nil, AllP, plE, InR, Root.holds, Root.readL] <;> and_intros <;> first | omega | assumption | (show _ ≤ _; omega) | (show _ < _; omega) | (show _ ≠ _; omega) | exact rfl | trivial | exact pl_ds _ _ _ | exact pl_st3 trivial (pl_pl _) (pl_pl _) | exact fun _ _ => trivial)) (by rfl) (by trivial))

theorem toPlaces_fn (p : Nat → Nat) : FnP Try.prog 18 [pl p] (pl fun i => if i < 16 then p i else 0) := by
  refine FnS.into T tok Try.func18 (by rfl) rfl rfl rfl (by simp) ?_
  refine WP.rs T false tok (by rfl) (by first | trivial | (simp only [Int.toNat_natCast, addrAt0, List.nil_append, List.cons_append, List.append_nil, AllP, plE, InR, Root.holds, Root.readL] <;> and_intros <;> first | omega | assumption | (show _ ≤ _; omega) | (show _ < _; omega) | (show _ ≠ _; omega) | exact rfl | trivial | exact pl_ds _ _ _ | exact pl_st3 trivial (pl_pl _) (pl_pl _) | exact fun _ _ => trivial)) ?_
  refine WP.rs T false tok (by rfl) (by first | trivial | (simp only [Int.toNat_natCast, addrAt0, List.nil_append, List.cons_append, List.append_nil, AllP, plE, InR, Root.holds, Root.readL] <;> and_intros <;> first | omega | assumption | (show _ ≤ _; omega) | (show _ < _; omega) | (show _ ≠ _; omega) | exact rfl | trivial | exact pl_ds _ _ _ | exact pl_st3 trivial (pl_pl _) (pl_pl _) | exact fun _ _ => trivial)) ?_
  refine WP.seq ?_
  refine WP.rs T false tok (by rfl) (by first | trivial | (simp only [Int.toNat_natCast, addrAt0, List.nil_append, List.cons_append, List.append_nil, AllP, plE, InR, Root.holds, Root.readL] <;> and_intros <;> first | omega | assumption | (show _ ≤ _; omega) | (show _ < _; omega) | (show _ ≠ _; omega) | exact rfl | trivial | exact pl_ds _ _ _ | exact pl_st3 trivial (pl_pl _) (pl_pl _) | exact fun _ _ => trivial)) ?_
  refine WP.block ?_
  refine WP.loopS [4, 5, 6, 7, 8, 9, 10, 11, 12, 13] (fun k : Nat => k ≤ 16) (fun k => [(4, .i .i64 k)]) (fun k => [.var (pl p), .var (pl fun _ => 0), .var (pl fun i => if i < k then p i else 0)]) (fun k => 16 - k) 0 (by omega) (by rfl) (by rfl) ?_
  intro k hk g
  refine WP.seq ?_
  refine WP.rs T false tok (by rfl) (by first | trivial | (simp only [Int.toNat_natCast, addrAt0, List.nil_append, List.cons_append, List.append_nil, AllP, plE, InR, Root.holds, Root.readL] <;> and_intros <;> first | omega | assumption | (show _ ≤ _; omega) | (show _ < _; omega) | (show _ ≠ _; omega) | exact rfl | trivial | exact pl_ds _ _ _ | exact pl_st3 trivial (pl_pl _) (pl_pl _) | exact fun _ _ => trivial)) ?_
  refine WP.cond (by rfl) (fun hc => WP.skip ?_) (fun hc => WP.exit ?_)
  · have hk : k < 16 := by have := of_decide_eq_true hc; omega
    refine WP.seq (WP.block ?_)
    refine WP.run T false tok (by rfl) (by first | trivial | (simp only [Int.toNat_natCast, addrAt0, List.nil_append, List.cons_append, List.append_nil, AllP, plE, InR, Root.holds, Root.readL] <;> and_intros <;> first | omega | assumption | (show _ ≤ _; omega) | (show _ < _; omega) | (show _ ≠ _; omega) | exact rfl | trivial | exact pl_ds _ _ _ | exact pl_st3 trivial (pl_pl _) (pl_pl _) | exact fun _ _ => trivial)) ?_
    refine WP.run T false tok (by rfl) (by first | trivial | (simp only [Int.toNat_natCast, addrAt0, List.nil_append, List.cons_append, List.append_nil, AllP, plE, InR, Root.holds, Root.readL] <;> and_intros <;> first | omega | assumption | (show _ ≤ _; omega) | (show _ < _; omega) | (show _ ≠ _; omega) | exact rfl | trivial | exact pl_ds _ _ _ | exact pl_st3 trivial (pl_pl _) (pl_pl _) | exact fun _ _ => trivial)) ?_
    have e : up (fun i => if i < k then p i else 0) k (p k) = fun i => if i < k + 1 then p i else 0 := by
      funext i; unfold up; by_cases h : i = k
      · subst h; simp
      · simp only [if_neg h]; split <;> split <;> first | rfl | omega
    refine ⟨k + 1, by omega, by omega, by (dsimp only; (repeat (first | (with_reducible exact Agree.refl) | ((with_reducible refine Agree.hd ?_); exact rfl) | ((with_reducible refine Agree.fup ?_ ?_); exact rfl) | ((with_reducible refine Agree.inner ?_ ?_ ?_); exact rfl; exact rfl)))), by first | rfl | simp [Slots], by first | rfl | (simp only [upd, pl, dsf, cast1, Int.toNat_natCast, fup_u8, fup_b, fup_i64, dsf_up0, dsf_up1, dsf_up2]; done) | (simp only [upd, pl, dsf, cast1, Int.toNat_natCast, fup_u8, fup_b, fup_i64, dsf_up0, dsf_up1, dsf_up2]; first | (rw [e]; done) | (rw [e]; rfl))⟩
  · have hk : k = 16 := by have := of_decide_eq_false hc; omega
    subst hk
    refine WP.rs T false tok (by rfl) (by first | trivial | (simp only [Int.toNat_natCast, addrAt0, List.nil_append, List.cons_append, List.append_nil, AllP, plE, InR, Root.holds, Root.readL] <;> and_intros <;> first | omega | assumption | (show _ ≤ _; omega) | (show _ < _; omega) | (show _ ≠ _; omega) | exact rfl | trivial | exact pl_ds _ _ _ | exact pl_st3 trivial (pl_pl _) (pl_pl _) | exact fun _ _ => trivial)) ?_
    exact WP.ret (Ends.val (by rfl) (by first | trivial | (simp only [Int.toNat_natCast, addrAt0, List.nil_append, List.cons_append, List.append_nil, AllP, plE, InR, Root.holds, Root.readL] <;> and_intros <;> first | omega | assumption | (show _ ≤ _; omega) | (show _ < _; omega) | (show _ ≠ _; omega) | exact rfl | trivial | exact pl_ds _ _ _ | exact pl_st3 trivial (pl_pl _) (pl_pl _) | exact fun _ _ => trivial)) (by rfl) (by exact sc_pl _ _))
end Go.Proofs.Ytjkojpmocgnkhaa
