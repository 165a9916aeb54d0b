import Derived.Test.YtakapfgjdhliaaaX3
import Derived.Test.YtakapfgjdhliaaaD22
/- Arrays that loops fill: the same in the program and in the reference. -/
namespace Go.Proofs.Ytakapfgjdhliaaa
open Go.RowKit DM
set_option linter.unusedSimpArgs false
set_option linter.unusedVariables false
set_option maxRecDepth 100000
set_option maxHeartbeats 1000000

theorem l01Same_fn (n : Nat) (hn : n ≤ 16) : FnP Try.prog 74 [.i .i64 n] (pl (fillF (fun i => i) n)) := by
  refine FnS.into T tok Try.func74 (by rfl) rfl rfl rfl (by simp) ?_
  refine WP.rs T false tok (by rfl) (by exact byObl) ?_
  refine WP.rs T false tok (by rfl) (by exact byObl) ?_
  refine WP.seq ?_
  refine WP.rs T false tok (by rfl) (by exact byObl) ?_
  refine WP.block ?_
  refine WP.loopS [4, 6, 7, 8, 9, 10, 11, 12, 13, 14] (fun k : Nat => k ≤ n) (fun k => [(4, .i .i64 k)]) (fun k => [.var (pl fun _ => 0), .var (pl (fillF (fun i => i) k))]) (fun k => n - k) 0 (by omega) (by rfl) (by rw [fill_zero]; rfl) ?_
  intro k hk g
  refine WP.seq ?_
  refine WP.rs T false tok (by rfl) (by exact byObl) ?_
  refine WP.cond (by rfl) (fun hc => WP.skip ?_) (fun hc => WP.exit ?_)
  · have hk : k < n := by have := of_decide_eq_true hc; omega
    refine WP.seq (WP.block ?_)
    refine WP.run T false tok (by rfl) (by exact byObl) ?_
    refine WP.run T false tok (by rfl) (by exact byObl) ?_
    refine ⟨k + 1, by omega, by omega, by (dsimp only; (repeat (first | (with_reducible exact Agree.refl) | ((with_reducible refine Agree.hd ?_); exact rfl) | ((with_reducible refine Agree.fup ?_ ?_); exact rfl) | ((with_reducible refine Agree.inner ?_ ?_ ?_); exact rfl; exact rfl)))), by first | rfl | simp [Slots], by first | rfl | (simp only [upd, pl, dsf, cast1, Int.toNat_natCast, fup_u8, fup_b, fup_i64, dsf_up0, dsf_up1, dsf_up2]; done) | (simp only [upd, pl, dsf, cast1, Int.toNat_natCast, fup_u8, fup_b, fup_i64, dsf_up0, dsf_up1, dsf_up2]; first | (rw [fill_step (fun i => i)]; done) | (rw [fill_step (fun i => i)]; rfl))⟩
  · have hk : k = n := by have := of_decide_eq_false hc; omega
    subst hk
    refine WP.rs T false tok (by rfl) (by exact byObl) ?_
    exact WP.ret (Ends.val (by rfl) (by exact byObl) (by rfl) (by exact sc_pl _ _))

theorem same_fn (n : Nat) (hn : n ≤ 16) : FnP Try.prog 53 [.i .i64 n] (pl (fillF (fun i => i) n)) := by
  refine FnS.into T tok Try.func53 (by rfl) rfl rfl rfl (by simp) ?_
  refine WP.rs T false tok (by rfl) (by exact byObl) ?_
  refine WP.rs T false tok (by rfl) (by exact byObl) ?_
  refine WP.seq ?_
  refine WP.rs T false tok (by rfl) (by exact byObl) ?_
  refine WP.block ?_
  refine WP.loopS [4, 7, 8, 9, 10, 11, 12, 13, 14] (fun k : Nat => k ≤ n) (fun k => [(7, .i .i64 k)]) (fun k => [.var (pl fun _ => 0), .var (pl (fillF (fun i => i) k))]) (fun k => n - k) 0 (by omega) (by rfl) (by rw [fill_zero]; rfl) ?_
  intro k hk g
  refine WP.rs T false tok (by rfl) (by exact byObl) ?_
  refine WP.seq ?_
  refine WP.cond (by rfl) (fun hc => WP.skip ?_) (fun hc => WP.exit ?_)
  · have hk : k < n := by have := of_decide_eq_true hc; omega
    refine WP.seq (WP.block ?_)
    refine WP.rs T false tok (by rfl) (by exact byObl) ?_
    refine WP.run T false tok (by rfl) (by exact byObl) ?_
    refine WP.run T false tok (by rfl) (by exact byObl) ?_
    refine ⟨k + 1, by omega, by omega, by (dsimp only; (repeat (first | (with_reducible exact Agree.refl) | ((with_reducible refine Agree.hd ?_); exact rfl) | ((with_reducible refine Agree.fup ?_ ?_); exact rfl) | ((with_reducible refine Agree.inner ?_ ?_ ?_); exact rfl; exact rfl)))), by first | rfl | simp [Slots], by first | rfl | (simp only [upd, pl, dsf, cast1, Int.toNat_natCast, fup_u8, fup_b, fup_i64, dsf_up0, dsf_up1, dsf_up2]; done) | (simp only [upd, pl, dsf, cast1, Int.toNat_natCast, fup_u8, fup_b, fup_i64, dsf_up0, dsf_up1, dsf_up2]; first | (rw [fill_step (fun i => i)]; done) | (rw [fill_step (fun i => i)]; rfl))⟩
  · have hk : k = n := by have := of_decide_eq_false hc; omega
    subst hk
    refine WP.rs T false tok (by rfl) (by exact byObl) ?_
    exact WP.ret (Ends.val (by rfl) (by exact byObl) (by rfl) (by exact sc_pl _ _))

theorem l01Back_fn (p : Nat → Nat) (n : Nat) (hn : n ≤ 16) (hp : ∀ i, i < n → p i < n) : FnP Try.prog 49 [pl p, .i .i64 n] (pl (backTo p n)) := by
  refine FnS.into T tok Try.func49 (by rfl) rfl rfl rfl (by simp) ?_
  refine WP.rs T false tok (by rfl) (by exact byObl) ?_
  refine WP.rs T false tok (by rfl) (by exact byObl) ?_
  refine WP.seq ?_
  refine WP.rs T false tok (by rfl) (by exact byObl) ?_
  refine WP.block ?_
  refine WP.loopS [6, 8, 9, 10, 11, 12, 13, 14, 15, 16, 17, 18] (fun k : Nat => k ≤ n) (fun k => [(6, .i .i64 k)]) (fun k => [.var (pl p), .var (pl fun _ => 0), .var (pl (backTo p k))]) (fun k => n - k) 0 (by omega) (by rfl) (by rfl) ?_
  intro k hk g
  refine WP.seq ?_
  refine WP.rs T false tok (by rfl) (by exact byObl) ?_
  refine WP.cond (by rfl) (fun hc => WP.skip ?_) (fun hc => WP.exit ?_)
  · have hk : k < n := by have := of_decide_eq_true hc; omega
    have hpk := hp k hk
    refine WP.seq (WP.block ?_)
    refine WP.run T false tok (by rfl) (by exact byObl) ?_
    refine WP.run T false tok (by rfl) (by exact byObl) ?_
    refine ⟨k + 1, by omega, by omega, by (dsimp only; (repeat (first | (with_reducible exact Agree.refl) | ((with_reducible refine Agree.hd ?_); exact rfl) | ((with_reducible refine Agree.fup ?_ ?_); exact rfl) | ((with_reducible refine Agree.inner ?_ ?_ ?_); exact rfl; exact rfl)))), by first | rfl | simp [Slots], by first | rfl | (simp only [upd, pl, dsf, cast1, Int.toNat_natCast, fup_u8, fup_b, fup_i64, dsf_up0, dsf_up1, dsf_up2]; done) | (simp only [upd, pl, dsf, cast1, Int.toNat_natCast, fup_u8, fup_b, fup_i64, dsf_up0, dsf_up1, dsf_up2]; first | (rfl; done) | (rfl; rfl))⟩
  · have hk : k = n := by have := of_decide_eq_false hc; omega
    subst hk
    refine WP.rs T false tok (by rfl) (by exact byObl) ?_
    exact WP.ret (Ends.val (by rfl) (by exact byObl) (by rfl) (by exact sc_pl _ _))

theorem back_fn (p : Nat → Nat) (n : Nat) (hn : n ≤ 16) (hp : ∀ i, i < n → p i < n) : FnP Try.prog 48 [pl p, .i .i64 n] (pl (backTo p n)) := by
  refine FnS.into T tok Try.func48 (by rfl) rfl rfl rfl (by simp) ?_
  refine WP.rs T false tok (by rfl) (by exact byObl) ?_
  refine WP.rs T false tok (by rfl) (by exact byObl) ?_
  refine WP.seq ?_
  refine WP.rs T false tok (by rfl) (by exact byObl) ?_
  refine WP.block ?_
  refine WP.loopS [6, 9, 10, 11, 12, 13, 14, 15, 16, 17, 18] (fun k : Nat => k ≤ n) (fun k => [(9, .i .i64 k)]) (fun k => [.var (pl p), .var (pl fun _ => 0), .var (pl (backTo p k))]) (fun k => n - k) 0 (by omega) (by rfl) (by rfl) ?_
  intro k hk g
  refine WP.rs T false tok (by rfl) (by exact byObl) ?_
  refine WP.seq ?_
  refine WP.cond (by rfl) (fun hc => WP.skip ?_) (fun hc => WP.exit ?_)
  · have hk : k < n := by have := of_decide_eq_true hc; omega
    have hpk := hp k hk
    refine WP.seq (WP.block ?_)
    refine WP.rs T false tok (by rfl) (by exact byObl) ?_
    refine WP.run T false tok (by rfl) (by exact byObl) ?_
    refine WP.run T false tok (by rfl) (by exact byObl) ?_
    refine ⟨k + 1, by omega, by omega, by (dsimp only; (repeat (first | (with_reducible exact Agree.refl) | ((with_reducible refine Agree.hd ?_); exact rfl) | ((with_reducible refine Agree.fup ?_ ?_); exact rfl) | ((with_reducible refine Agree.inner ?_ ?_ ?_); exact rfl; exact rfl)))), by first | rfl | simp [Slots], by first | rfl | (simp only [upd, pl, dsf, cast1, Int.toNat_natCast, fup_u8, fup_b, fup_i64, dsf_up0, dsf_up1, dsf_up2]; done) | (simp only [upd, pl, dsf, cast1, Int.toNat_natCast, fup_u8, fup_b, fup_i64, dsf_up0, dsf_up1, dsf_up2]; first | (rfl; done) | (rfl; rfl))⟩
  · have hk : k = n := by have := of_decide_eq_false hc; omega
    subst hk
    refine WP.rs T false tok (by rfl) (by exact byObl) ?_
    exact WP.ret (Ends.val (by rfl) (by exact byObl) (by rfl) (by exact sc_pl _ _))

theorem l01Then_fn (p q : Nat → Nat) (n : Nat) (hn : n ≤ 16) (hp : ∀ i, i < n → p i < n) : FnP Try.prog 47 [pl p, pl q, .i .i64 n] (pl (fillF (fun i => q (p i)) n)) := by
  refine FnS.into T tok Try.func47 (by rfl) rfl rfl rfl (by simp) ?_
  refine WP.rs T false tok (by rfl) (by exact byObl) ?_
  refine WP.rs T false tok (by rfl) (by exact byObl) ?_
  refine WP.seq ?_
  refine WP.rs T false tok (by rfl) (by exact byObl) ?_
  refine WP.block ?_
  refine WP.loopS [8, 10, 11, 12, 13, 14, 15, 16, 17, 18, 19, 20, 21] (fun k : Nat => k ≤ n) (fun k => [(8, .i .i64 k)]) (fun k => [.var (pl p), .var (pl q), .var (pl fun _ => 0), .var (pl (fillF (fun i => q (p i)) k))]) (fun k => n - k) 0 (by omega) (by rfl) (by rw [fill_zero]; rfl) ?_
  intro k hk g
  refine WP.seq ?_
  refine WP.rs T false tok (by rfl) (by exact byObl) ?_
  refine WP.cond (by rfl) (fun hc => WP.skip ?_) (fun hc => WP.exit ?_)
  · have hk : k < n := by have := of_decide_eq_true hc; omega
    have hpk := hp k hk
    refine WP.seq (WP.block ?_)
    refine WP.run T false tok (by rfl) (by exact byObl) ?_
    refine WP.run T false tok (by rfl) (by exact byObl) ?_
    refine ⟨k + 1, by omega, by omega, by (dsimp only; (repeat (first | (with_reducible exact Agree.refl) | ((with_reducible refine Agree.hd ?_); exact rfl) | ((with_reducible refine Agree.fup ?_ ?_); exact rfl) | ((with_reducible refine Agree.inner ?_ ?_ ?_); exact rfl; exact rfl)))), by first | rfl | simp [Slots], by first | rfl | (simp only [upd, pl, dsf, cast1, Int.toNat_natCast, fup_u8, fup_b, fup_i64, dsf_up0, dsf_up1, dsf_up2]; done) | (simp only [upd, pl, dsf, cast1, Int.toNat_natCast, fup_u8, fup_b, fup_i64, dsf_up0, dsf_up1, dsf_up2]; first | (rw [fill_step (fun i => q (p i))]; done) | (rw [fill_step (fun i => q (p i))]; rfl))⟩
  · have hk : k = n := by have := of_decide_eq_false hc; omega
    subst hk
    refine WP.rs T false tok (by rfl) (by exact byObl) ?_
    exact WP.ret (Ends.val (by rfl) (by exact byObl) (by rfl) (by exact sc_pl _ _))

theorem then_fn (p q : Nat → Nat) (n : Nat) (hn : n ≤ 16) (hp : ∀ i, i < n → p i < n) : FnP Try.prog 45 [pl p, pl q, .i .i64 n] (pl (fillF (fun i => q (p i)) n)) := by
  refine FnS.into T tok Try.func45 (by rfl) rfl rfl rfl (by simp) ?_
  refine WP.rs T false tok (by rfl) (by exact byObl) ?_
  refine WP.rs T false tok (by rfl) (by exact byObl) ?_
  refine WP.seq ?_
  refine WP.rs T false tok (by rfl) (by exact byObl) ?_
  refine WP.block ?_
  refine WP.loopS [8, 11, 12, 13, 14, 15, 16, 17, 18, 19, 20, 21] (fun k : Nat => k ≤ n) (fun k => [(11, .i .i64 k)]) (fun k => [.var (pl p), .var (pl q), .var (pl fun _ => 0), .var (pl (fillF (fun i => q (p i)) k))]) (fun k => n - k) 0 (by omega) (by rfl) (by rw [fill_zero]; rfl) ?_
  intro k hk g
  refine WP.rs T false tok (by rfl) (by exact byObl) ?_
  refine WP.seq ?_
  refine WP.cond (by rfl) (fun hc => WP.skip ?_) (fun hc => WP.exit ?_)
  · have hk : k < n := by have := of_decide_eq_true hc; omega
    have hpk := hp k hk
    refine WP.seq (WP.block ?_)
    refine WP.rs T false tok (by rfl) (by exact byObl) ?_
    refine WP.run T false tok (by rfl) (by exact byObl) ?_
    refine WP.run T false tok (by rfl) (by exact byObl) ?_
    refine ⟨k + 1, by omega, by omega, by (dsimp only; (repeat (first | (with_reducible exact Agree.refl) | ((with_reducible refine Agree.hd ?_); exact rfl) | ((with_reducible refine Agree.fup ?_ ?_); exact rfl) | ((with_reducible refine Agree.inner ?_ ?_ ?_); exact rfl; exact rfl)))), by first | rfl | simp [Slots], by first | rfl | (simp only [upd, pl, dsf, cast1, Int.toNat_natCast, fup_u8, fup_b, fup_i64, dsf_up0, dsf_up1, dsf_up2]; done) | (simp only [upd, pl, dsf, cast1, Int.toNat_natCast, fup_u8, fup_b, fup_i64, dsf_up0, dsf_up1, dsf_up2]; first | (rw [fill_step (fun i => q (p i))]; done) | (rw [fill_step (fun i => q (p i))]; rfl))⟩
  · have hk : k = n := by have := of_decide_eq_false hc; omega
    subst hk
    refine WP.rs T false tok (by rfl) (by exact byObl) ?_
    exact WP.ret (Ends.val (by rfl) (by exact byObl) (by rfl) (by exact sc_pl _ _))

end Go.Proofs.Ytakapfgjdhliaaa
