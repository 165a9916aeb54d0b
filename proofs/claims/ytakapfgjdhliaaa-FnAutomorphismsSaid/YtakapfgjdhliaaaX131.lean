import Derived.Test.YtakapfgjdhliaaaX3
import Derived.Test.YtakapfgjdhliaaaD30
import Derived.Test.YtakapfgjdhliaaaX130
/- Arrays that loops fill: the same in the program and in the reference. -/
namespace Go.Proofs.Ytakapfgjdhliaaa
open Go.RowKit DM
set_option linter.unusedSimpArgs false
set_option linter.unusedVariables false
set_option maxRecDepth 100000
set_option maxHeartbeats 1000000

theorem l01Same_fn (n : Nat) (hn : n ≤ 16) : FnP Try.prog 74 [.i .i64 n] (pl (fillF (fun i => i) n)) := by
  refine FnS.into T tok Try.func74 (by rfl) rfl rfl rfl (by simp) ?_
  refine WP.rs T false tok (by rfl) (by exact byObl) ?_
  refine WP.rs T false tok (by rfl) (by exact byObl) ?_
  refine WP.seq ?_
  refine WP.rs T false tok (by rfl) (by exact byObl) ?_
  refine WP.block ?_
  refine WP.loopS [4, 6, 7, 8, 9, 10, 11, 12, 13, 14] (fun k : Nat => k ≤ n) (fun k => [(4, .i .i64 k)]) (fun k => [.var (pl fun _ => 0), .var (pl (fillF (fun i => i) k))]) (fun k => n - k) 0 (by omega) (by rfl) (by rw [fill_zero]; rfl) ?_
  intro k hk g
  refine WP.seq ?_
  refine WP.rs T false tok (by rfl) (by exact byObl) ?_
  refine WP.cond (by rfl) (fun hc => WP.skip ?_) (fun hc => WP.exit ?_)
  · have hk : k < n := by have := of_decide_eq_true hc; omega
    refine WP.seq (WP.block ?_)
    refine WP.run T false tok (by rfl) (by exact byObl) ?_
    refine WP.run T false tok (by rfl) (by exact byObl) ?_
    refine ⟨k + 1, by omega, by omega, by (dsimp only; (repeat (first | (with_reducible exact Agree.refl) | ((with_reducible refine Agree.hd ?_); exact rfl) | ((with_reducible refine Agree.fup ?_ ?_); exact rfl) | ((with_reducible refine Agree.inner ?_ ?_ ?_); exact rfl; exact rfl)))), by first | rfl | simp [Slots], by first | rfl | (simp only [upd, pl, dsf, cast1, Int.toNat_natCast, fup_u8, fup_b, fup_i64, dsf_up0, dsf_up1, dsf_up2]; done) | (simp only [upd, pl, dsf, cast1, Int.toNat_natCast, fup_u8, fup_b, fup_i64, dsf_up0, dsf_up1, dsf_up2]; first | (rw [fill_step (fun i => i)]; done) | (rw [fill_step (fun i => i)]; rfl))⟩
  · have hk : k = n := by have := of_decide_eq_false hc; omega
    subst hk
    refine WP.rs T false tok (by rfl) (by exact byObl) ?_
    exact WP.ret (Ends.val (by rfl) (by exact byObl) (by rfl) (by exact sc_pl _ _))

theorem same_fn (n : Nat) (hn : n ≤ 16) : FnP Try.prog 53 [.i .i64 n] (pl (fillF (fun i => i) n)) := by
  refine FnS.into T tok Try.func53 (by rfl) rfl rfl rfl (by simp) ?_
  refine WP.rs T false tok (by rfl) (by exact byObl) ?_
  refine WP.rs T false tok (by rfl) (by exact byObl) ?_
  refine WP.seq ?_
  refine WP.rs T false tok (by rfl) (by exact byObl) ?_
  refine WP.block ?_
  refine WP.loopS [4, 7, 8, 9, 10, 11, 12, 13, 14] (fun k : Nat => k ≤ n) (fun k => [(7, .i .i64 k)]) (fun k => [.var (pl fun _ => 0), .var (pl (fillF (fun i => i) k))]) (fun k => n - k) 0 (by omega) (by rfl) (by rw [fill_zero]; rfl) ?_
  intro k hk g
  refine WP.rs T false tok (by rfl) (by exact byObl) ?_
  refine WP.seq ?_
  refine WP.cond (by rfl) (fun hc => WP.skip ?_) (fun hc => WP.exit ?_)
  · have hk : k < n := by have := of_decide_eq_true hc; omega
    refine WP.seq (WP.block ?_)
    refine WP.rs T false tok (by rfl) (by exact byObl) ?_
    refine WP.run T false tok (by rfl) (by exact byObl) ?_
    refine WP.run T false tok (by rfl) (by exact byObl) ?_
    refine ⟨k + 1, by omega, by omega, by (dsimp only; (repeat (first | (with_reducible exact Agree.refl) | ((with_reducible refine Agree.hd ?_); exact rfl) | ((with_reducible refine Agree.fup ?_ ?_); exact rfl) | ((with_reducible refine Agree.inner ?_ ?_ ?_); exact rfl; exact rfl)))), by first | rfl | simp [Slots], by first | rfl | (simp only [upd, pl, dsf, cast1, Int.toNat_natCast, fup_u8, fup_b, fup_i64, dsf_up0, dsf_up1, dsf_up2]; done) | (simp only [upd, pl, dsf, cast1, Int.toNat_natCast, fup_u8, fup_b, fup_i64, dsf_up0, dsf_up1, dsf_up2]; first | (rw [fill_step (fun i => i)]; done) | (rw [fill_step (fun i => i)]; rfl))⟩
  · have hk : k = n := by have := of_decide_eq_false hc; omega
    subst hk
    refine WP.rs T false tok (by rfl) (by exact byObl) ?_
    exact WP.ret (Ends.val (by rfl) (by exact byObl) (by rfl) (by exact sc_pl _ _))

theorem l01Turn_fn (n : Nat) (h1 : 1 ≤ n) (hn : n ≤ 16) : FnP Try.prog 116 [.i .i64 n] (pl (fillF (fun i => (i + 1) % n) n)) := by
  refine FnS.into T tok Try.func116 (by rfl) rfl rfl rfl (by simp) ?_
  refine WP.rs T false tok (by rfl) (by exact byObl) ?_
  refine WP.rs T false tok (by rfl) (by exact byObl) ?_
  refine WP.seq ?_
  refine WP.rs T false tok (by rfl) (by exact byObl) ?_
  refine WP.block ?_
  refine WP.loopS [4, 6, 7, 8, 9, 10, 11, 12, 13, 14, 15, 16, 17] (fun k : Nat => k ≤ n) (fun k => [(4, .i .i64 k)]) (fun k => [.var (pl fun _ => 0), .var (pl (fillF (fun i => (i + 1) % n) k))]) (fun k => n - k) 0 (by omega) (by rfl) (by rw [fill_zero]; rfl) ?_
  intro k hk g
  refine WP.seq ?_
  refine WP.rs T false tok (by rfl) (by exact byObl) ?_
  refine WP.cond (by rfl) (fun hc => WP.skip ?_) (fun hc => WP.exit ?_)
  · have hk : k < n := by have := of_decide_eq_true hc; omega
    have e1 : ((k : Int) + 1).tmod n = (((k + 1) % n : Nat) : Int) := by rw [Int.tmod_eq_emod_of_nonneg (by omega)]; simp
    have e2 := Nat.mod_lt (k + 1) (show 0 < n by omega)
    refine WP.seq (WP.block ?_)
    refine WP.region ?_
    refine WPL.run T false 5 tok (by rfl) (by exact byObl) ?_
    rw [e1]
    refine WPL.fin T false tok (by rfl) (by exact byObl) ?_
    refine WP.run T false tok (by rfl) (by exact byObl) ?_
    refine ⟨k + 1, by omega, by omega, by (dsimp only; (repeat (first | (with_reducible exact Agree.refl) | ((with_reducible refine Agree.hd ?_); exact rfl) | ((with_reducible refine Agree.fup ?_ ?_); exact rfl) | ((with_reducible refine Agree.inner ?_ ?_ ?_); exact rfl; exact rfl)))), by first | rfl | simp [Slots], by first | rfl | (simp only [upd, pl, dsf, cast1, Int.toNat_natCast, fup_u8, fup_b, fup_i64, dsf_up0, dsf_up1, dsf_up2]; done) | (simp only [upd, pl, dsf, cast1, Int.toNat_natCast, fup_u8, fup_b, fup_i64, dsf_up0, dsf_up1, dsf_up2]; first | (rw [fill_step (fun i => (i + 1) % n)]; done) | (rw [fill_step (fun i => (i + 1) % n)]; rfl))⟩
  · have hk : k = n := by have := of_decide_eq_false hc; omega
    subst hk
    refine WP.rs T false tok (by rfl) (by exact byObl) ?_
    exact WP.ret (Ends.val (by rfl) (by exact byObl) (by rfl) (by exact sc_pl _ _))

theorem l01Back_fn (p : Nat → Nat) (n : Nat) (hn : n ≤ 16) (hp : ∀ i, i < n → p i < n) : FnP Try.prog 49 [pl p, .i .i64 n] (pl (backTo p n)) := by
  refine FnS.into T tok Try.func49 (by rfl) rfl rfl rfl (by simp) ?_
  refine WP.rs T false tok (by rfl) (by exact byObl) ?_
  refine WP.rs T false tok (by rfl) (by exact byObl) ?_
  refine WP.seq ?_
  refine WP.rs T false tok (by rfl) (by exact byObl) ?_
  refine WP.block ?_
  refine WP.loopS [6, 8, 9, 10, 11, 12, 13, 14, 15, 16, 17, 18] (fun k : Nat => k ≤ n) (fun k => [(6, .i .i64 k)]) (fun k => [.var (pl p), .var (pl fun _ => 0), .var (pl (backTo p k))]) (fun k => n - k) 0 (by omega) (by rfl) (by rfl) ?_
  intro k hk g
  refine WP.seq ?_
  refine WP.rs T false tok (by rfl) (by exact byObl) ?_
  refine WP.cond (by rfl) (fun hc => WP.skip ?_) (fun hc => WP.exit ?_)
  · have hk : k < n := by have := of_decide_eq_true hc; omega
    have hpk := hp k hk
    refine WP.seq (WP.block ?_)
    refine WP.run T false tok (by rfl) (by exact byObl) ?_
    refine WP.run T false tok (by rfl) (by exact byObl) ?_
    refine ⟨k + 1, by omega, by omega, by (dsimp only; (repeat (first | (with_reducible exact Agree.refl) | ((with_reducible refine Agree.hd ?_); exact rfl) | ((with_reducible refine Agree.fup ?_ ?_); exact rfl) | ((with_reducible refine Agree.inner ?_ ?_ ?_); exact rfl; exact rfl)))), by first | rfl | simp [Slots], by first | rfl | (simp only [upd, pl, dsf, cast1, Int.toNat_natCast, fup_u8, fup_b, fup_i64, dsf_up0, dsf_up1, dsf_up2]; done) | (simp only [upd, pl, dsf, cast1, Int.toNat_natCast, fup_u8, fup_b, fup_i64, dsf_up0, dsf_up1, dsf_up2]; first | (rfl; done) | (rfl; rfl))⟩
  · have hk : k = n := by have := of_decide_eq_false hc; omega
    subst hk
    refine WP.rs T false tok (by rfl) (by exact byObl) ?_
    exact WP.ret (Ends.val (by rfl) (by exact byObl) (by rfl) (by exact sc_pl _ _))

theorem back_fn (p : Nat → Nat) (n : Nat) (hn : n ≤ 16) (hp : ∀ i, i < n → p i < n) : FnP Try.prog 48 [pl p, .i .i64 n] (pl (backTo p n)) := by
  refine FnS.into T tok Try.func48 (by rfl) rfl rfl rfl (by simp) ?_
  refine WP.rs T false tok (by rfl) (by exact byObl) ?_
  refine WP.rs T false tok (by rfl) (by exact byObl) ?_
  refine WP.seq ?_
  refine WP.rs T false tok (by rfl) (by exact byObl) ?_
  refine WP.block ?_
  refine WP.loopS [6, 9, 10, 11, 12, 13, 14, 15, 16, 17, 18] (fun k : Nat => k ≤ n) (fun k => [(9, .i .i64 k)]) (fun k => [.var (pl p), .var (pl fun _ => 0), .var (pl (backTo p k))]) (fun k => n - k) 0 (by omega) (by rfl) (by rfl) ?_
  intro k hk g
  refine WP.rs T false tok (by rfl) (by exact byObl) ?_
  refine WP.seq ?_
  refine WP.cond (by rfl) (fun hc => WP.skip ?_) (fun hc => WP.exit ?_)
  · have hk : k < n := by have := of_decide_eq_true hc; omega
    have hpk := hp k hk
    refine WP.seq (WP.block ?_)
    refine WP.rs T false tok (by rfl) (by exact byObl) ?_
    refine WP.run T false tok (by rfl) (by exact byObl) ?_
    refine WP.run T false tok (by rfl) (by exact byObl) ?_
    refine ⟨k + 1, by omega, by omega, by (dsimp only; (repeat (first | (with_reducible exact Agree.refl) | ((with_reducible refine Agree.hd ?_); exact rfl) | ((with_reducible refine Agree.fup ?_ ?_); exact rfl) | ((with_reducible refine Agree.inner ?_ ?_ ?_); exact rfl; exact rfl)))), by first | rfl | simp [Slots], by first | rfl | (simp only [upd, pl, dsf, cast1, Int.toNat_natCast, fup_u8, fup_b, fup_i64, dsf_up0, dsf_up1, dsf_up2]; done) | (simp only [upd, pl, dsf, cast1, Int.toNat_natCast, fup_u8, fup_b, fup_i64, dsf_up0, dsf_up1, dsf_up2]; first | (rfl; done) | (rfl; rfl))⟩
  · have hk : k = n := by have := of_decide_eq_false hc; omega
    subst hk
    refine WP.rs T false tok (by rfl) (by exact byObl) ?_
    exact WP.ret (Ends.val (by rfl) (by exact byObl) (by rfl) (by exact sc_pl _ _))

theorem l01Then_fn (p q : Nat → Nat) (n : Nat) (hn : n ≤ 16) (hp : ∀ i, i < n → p i < n) : FnP Try.prog 47 [pl p, pl q, .i .i64 n] (pl (fillF (fun i => q (p i)) n)) := by
  refine FnS.into T tok Try.func47 (by rfl) rfl rfl rfl (by simp) ?_
  refine WP.rs T false tok (by rfl) (by exact byObl) ?_
  refine WP.rs T false tok (by rfl) (by exact byObl) ?_
  refine WP.seq ?_
  refine WP.rs T false tok (by rfl) (by exact byObl) ?_
  refine WP.block ?_
  refine WP.loopS [8, 10, 11, 12, 13, 14, 15, 16, 17, 18, 19, 20, 21] (fun k : Nat => k ≤ n) (fun k => [(8, .i .i64 k)]) (fun k => [.var (pl p), .var (pl q), .var (pl fun _ => 0), .var (pl (fillF (fun i => q (p i)) k))]) (fun k => n - k) 0 (by omega) (by rfl) (by rw [fill_zero]; rfl) ?_
  intro k hk g
  refine WP.seq ?_
  refine WP.rs T false tok (by rfl) (by exact byObl) ?_
  refine WP.cond (by rfl) (fun hc => WP.skip ?_) (fun hc => WP.exit ?_)
  · have hk : k < n := by have := of_decide_eq_true hc; omega
    have hpk := hp k hk
    refine WP.seq (WP.block ?_)
    refine WP.run T false tok (by rfl) (by exact byObl) ?_
    refine WP.run T false tok (by rfl) (by exact byObl) ?_
    refine ⟨k + 1, by omega, by omega, by (dsimp only; (repeat (first | (with_reducible exact Agree.refl) | ((with_reducible refine Agree.hd ?_); exact rfl) | ((with_reducible refine Agree.fup ?_ ?_); exact rfl) | ((with_reducible refine Agree.inner ?_ ?_ ?_); exact rfl; exact rfl)))), by first | rfl | simp [Slots], by first | rfl | (simp only [upd, pl, dsf, cast1, Int.toNat_natCast, fup_u8, fup_b, fup_i64, dsf_up0, dsf_up1, dsf_up2]; done) | (simp only [upd, pl, dsf, cast1, Int.toNat_natCast, fup_u8, fup_b, fup_i64, dsf_up0, dsf_up1, dsf_up2]; first | (rw [fill_step (fun i => q (p i))]; done) | (rw [fill_step (fun i => q (p i))]; rfl))⟩
  · have hk : k = n := by have := of_decide_eq_false hc; omega
    subst hk
    refine WP.rs T false tok (by rfl) (by exact byObl) ?_
    exact WP.ret (Ends.val (by rfl) (by exact byObl) (by rfl) (by exact sc_pl _ _))

theorem then_fn (p q : Nat → Nat) (n : Nat) (hn : n ≤ 16) (hp : ∀ i, i < n → p i < n) : FnP Try.prog 45 [pl p, pl q, .i .i64 n] (pl (fillF (fun i => q (p i)) n)) := by
  refine FnS.into T tok Try.func45 (by rfl) rfl rfl rfl (by simp) ?_
  refine WP.rs T false tok (by rfl) (by exact byObl) ?_
  refine WP.rs T false tok (by rfl) (by exact byObl) ?_
  refine WP.seq ?_
  refine WP.rs T false tok (by rfl) (by exact byObl) ?_
  refine WP.block ?_
  refine WP.loopS [8, 11, 12, 13, 14, 15, 16, 17, 18, 19, 20, 21] (fun k : Nat => k ≤ n) (fun k => [(11, .i .i64 k)]) (fun k => [.var (pl p), .var (pl q), .var (pl fun _ => 0), .var (pl (fillF (fun i => q (p i)) k))]) (fun k => n - k) 0 (by omega) (by rfl) (by rw [fill_zero]; rfl) ?_
  intro k hk g
  refine WP.rs T false tok (by rfl) (by exact byObl) ?_
  refine WP.seq ?_
  refine WP.cond (by rfl) (fun hc => WP.skip ?_) (fun hc => WP.exit ?_)
  · have hk : k < n := by have := of_decide_eq_true hc; omega
    have hpk := hp k hk
    refine WP.seq (WP.block ?_)
    refine WP.rs T false tok (by rfl) (by exact byObl) ?_
    refine WP.run T false tok (by rfl) (by exact byObl) ?_
    refine WP.run T false tok (by rfl) (by exact byObl) ?_
    refine ⟨k + 1, by omega, by omega, by (dsimp only; (repeat (first | (with_reducible exact Agree.refl) | ((with_reducible refine Agree.hd ?_); exact rfl) | ((with_reducible refine Agree.fup ?_ ?_); exact rfl) | ((with_reducible refine Agree.inner ?_ ?_ ?_); exact rfl; exact rfl)))), by first | rfl | simp [Slots], by first | rfl | (simp only [upd, pl, dsf, cast1, Int.toNat_natCast, fup_u8, fup_b, fup_i64, dsf_up0, dsf_up1, dsf_up2]; done) | (simp only [upd, pl, dsf, cast1, Int.toNat_natCast, fup_u8, fup_b, fup_i64, dsf_up0, dsf_up1, dsf_up2]; first | (rw [fill_step (fun i => q (p i))]; done) | (rw [fill_step (fun i => q (p i))]; rfl))⟩
  · have hk : k = n := by have := of_decide_eq_false hc; omega
    subst hk
    refine WP.rs T false tok (by rfl) (by exact byObl) ?_
    exact WP.ret (Ends.val (by rfl) (by exact byObl) (by rfl) (by exact sc_pl _ _))

end Go.Proofs.Ytakapfgjdhliaaa

/- Draws: permutations. -/
namespace Go.Proofs.Ytakapfgjdhliaaa
open Go.RowKit DM
set_option linter.unusedSimpArgs false
set_option linter.unusedVariables false
set_option maxRecDepth 100000
set_option maxHeartbeats 1000000

theorem l01SameI_fn (n : Int) (hn : n ≤ 0) : FnP Try.prog 74 [.i .i64 n] (pl (fillF (fun i => i) n.toNat)) := by
  have e : pl (fillF (fun i => i) n.toNat) = pl fun _ => 0 := by
    rw [show n.toNat = 0 by omega, fill_zero]
  rw [e]
  refine FnS.into T tok Try.func74 (by rfl) rfl rfl rfl (by simp) ?_
  refine WP.rs T false tok (by rfl) (by exact byObl) ?_
  refine WP.rs T false tok (by rfl) (by exact byObl) ?_
  refine WP.seq ?_
  refine WP.rs T false tok (by rfl) (by exact byObl) ?_
  refine WP.block ?_
  refine WP.loopH (⟨fun k : Nat => k = 0, fun k => [(0, .i .i64 n), (2, .p 0 [] 0), (3, .p 1 [] 0), (4, .i .i64 (k : Int))], fun k => [.var (pl fun _ => 0), .var (pl fun _ => 0)], fun k => 0⟩) (0) (rfl) (Ghost.cut (Nat.le_refl _) (tauOf [0, 1]) _ _ (Taken.of [0, 1] (LeAll.cons (by rfl) (by first | with_reducible exact Root.Le.refl _ | with_reducible exact le_dead | (skip; done) | exact byLeq) (by exact byCon) (LeAll.cons (by rfl) (by first | with_reducible exact Root.Le.refl _ | with_reducible exact le_dead | (skip; done) | exact byLeq) (by exact byCon) (trivial))) rfl rfl) (by exact bySlots)) ?_
  intro k hk
  dsimp only at hk
  subst hk
  dsimp only [Hd.at]
  refine WP.seq ?_
  refine WP.rs T false tok (by rfl) (by exact byObl) ?_
  refine WP.cond (by rfl) (fun hc => WP.skip ?_) (fun hc => WP.exit ?_)
  · have hc := of_decide_eq_true hc
    exact absurd hc (by omega)
  · refine WP.rs T false tok (by rfl) (by exact byObl) ?_
    exact WP.ret (Ends.val (by rfl) (by exact byObl) (by rfl) (by exact sc_pl _ _))

/-- Bytes below b, and none behind the sixteen places. -/
structure Bt (b : Nat) (p : Nat → Nat) : Prop where
  lt : ∀ i, p i < b
  z : ∀ i, 16 ≤ i → p i = 0
theorem Bt.up {b : Nat} {p : Nat → Nat} (h : Bt b p) {i v : Nat} (hi : i < 16) (hv : v < b) : Bt b (up p i v) := ⟨fun k => by
  unfold Go.Proofs.Ytakapfgjdhliaaa.up
  split
  · exact hv
  · exact h.lt k, fun k hk => by rw [up_ne _ _ (by omega)]; exact h.z k hk⟩
theorem Bt.mono {b c : Nat} {p : Nat → Nat} (h : Bt b p) (hb : b ≤ c) : Bt c p := ⟨fun i => Nat.lt_of_lt_of_le (h.lt i) hb, h.z⟩
/-- How many numbers there are at least, one at the least. -/
def bN (n : Int) : Nat := if 1 ≤ n then n.toNat else 1
theorem bN_le {n : Int} (hn : n ≤ 16) : bN n ≤ 16 := by unfold bN; split <;> omega
theorem bN_pos (n : Int) : 1 ≤ bN n := by unfold bN; split <;> omega
theorem bN_nat {n : Nat} (h : 1 ≤ n) : bN n = n := by unfold bN; rw [if_pos (by omega)]; rfl
theorem bt_fill {n : Int} (hn : n ≤ 16) : Bt (bN n) (fillF (fun i => i) n.toNat) := ⟨fun i => by
  have := bN_pos n
  show (if i < n.toNat then i else 0) < bN n
  split
  · unfold bN; rw [if_pos (by omega)]; assumption
  · exact this, fun i hi => by
  show (if i < n.toNat then i else 0) = 0
  rw [if_neg (by omega)]⟩

theorem l01SameA_fn (n : Int) (hn : n ≤ 16) : ∃ p : Nat → Nat, Bt (bN n) p ∧ FnP Try.prog 74 [.i .i64 n] (pl p) := by
  by_cases h : n ≤ 0
  · exact ⟨_, bt_fill hn, l01SameI_fn n h⟩
  · obtain ⟨N, rfl⟩ : ∃ N : Nat, n = N := ⟨n.toNat, by omega⟩
    exact ⟨_, bt_fill hn, l01Same_fn N (by omega)⟩

theorem l01DrawPlaces_fn (len : Nat) (g : Nat → Nat) (hg : ∀ j, g j < 256) (a : Nat) (h : Int) (n : Int) (hn : n ≤ 16) (hn2 : -9223372036854775808 < n) (ha : a ≤ len) (hl : len ≤ 4294967296) :
    FnS Try.prog 44 [.p 0 [] 0, .i .i64 n] [.var (srcD len g a h)] fun r m' => ∃ (p : Nat → Nat) (a' : Nat) (h' : Int), r = pl p ∧ Bt (bN n) p ∧ a' ≤ len ∧ m' = [.var (srcD len g a' h')] := by
  have hSc : ∀ (k : Nat) (h : Int), Sc k (srcD len g a h) := fun k h => sc_src k len g a h
  obtain ⟨p, hp, hsm⟩ := l01SameA_fn n hn
  have hnx := l01Next_fn len g hg a h 8 ha hl
  refine FnS.intoE T tok Try.func44 (by rfl) rfl rfl rfl (by simp) ?_
  refine WP.rs T false tok (by rfl) (by exact byObl) ?_
  refine WP.rw ?_
  refine WPL.run T false 1 tok (by rfl) (by exact byObl) ?_
  refine WPL.call (hsm) (by rfl) (by rfl) (by rfl) (by simp [Sc, sc_pl, sc_ds, pl_ne, ds_ne]) ?_
  refine WPL.fin T false tok (by rfl) (by exact byObl) ?_
  refine WP.seq ?_
  refine WP.rw ?_
  refine WPL.run T false 1 tok (by rfl) (by exact byObl) ?_
  refine WPL.callE [0] (hnx) (LeAll.cons (by rfl) (by first | with_reducible exact Root.Le.refl _ | with_reducible exact le_dead | (skip; done) | exact byLeq) (by exact byCon) (trivial)) (by rfl) (by rfl) (by exact byArgs) (by rfl) (by rfl) (by simp [Sc, sc_pl, sc_ds]) ?_
  rintro _ _ ⟨x, a', h', rfl, hx1, _, ha', rfl⟩
  refine ⟨⟨fun d hd => by cases hd; exact sc_src _ _ _ _ _, trivial⟩, .i .i64 x, ⟨rfl, trivial⟩, trivial, ?_⟩
  refine WPL.mem (by rfl) ?_
  have hSc : ∀ (k : Nat) (h : Int), Sc k (srcD len g a' h) := fun k h => sc_src k len g a' h
  refine WPL.fin T false tok (by rfl) (by exact byObl) ?_
  refine WP.cond (by rfl) (fun hx => ?_) (fun hx => WP.skip ?_)
  · refine WP.rs T false tok (by rfl) (by exact byObl) ?_
    exact WP.ret (Ends.newE [0] (⟨p, a', h', rfl, hp, ha', rfl⟩) (.inl rfl) (by rfl) (by exact byObl) (LeAll.cons (by rfl) (by first | with_reducible exact Root.Le.refl _ | with_reducible exact le_dead | (skip; done) | exact byLeq) (by exact byCon) (trivial)) rfl rfl (⟨rfl, sc_pl _ _⟩) (sc_pl _ _))
  clear hx
  refine WP.seq ?_
  refine WP.rs T false tok (by rfl) (by exact byObl) ?_
  refine WP.block ?_
  refine WP.loopH (⟨fun z : Int × (Nat → Nat) × Nat × Int => z.1 ≤ 15 ∧ Bt (bN n) z.2.1 ∧ z.2.2.1 ≤ len, fun z => [(0, .p 0 [] 0), (4, .p 1 [] 0), (5, .p 2 [] 0), (6, .i .i64 z.1)], fun z => [.var (srcD len g z.2.2.1 z.2.2.2), .var (pl fun _ => 0), .var (pl z.2.1)], fun z => z.1.toNat⟩) ((n - 1, p, a', h')) (⟨by omega, hp, ha'⟩) (Ghost.cut (Nat.le_refl _) (tauOf [0, 1, 2]) _ _ (Taken.of [0, 1, 2] (LeAll.cons (by rfl) (by first | with_reducible exact Root.Le.refl _ | with_reducible exact le_dead | (skip; done) | exact byLeq) (by exact byCon) (LeAll.cons (by rfl) (by first | with_reducible exact Root.Le.refl _ | with_reducible exact le_dead | (skip; done) | exact byLeq) (by exact byCon) (LeAll.cons (by rfl) (by first | with_reducible exact Root.Le.refl _ | with_reducible exact le_dead | (skip; done) | exact byLeq) (by exact byCon) (trivial)))) rfl rfl) (by exact bySlots)) ?_
  rintro ⟨i, q, c, h1⟩ ⟨hi, hq, hcl⟩
  dsimp only at hi hq hcl
  dsimp only [Hd.at]
  have hSc : ∀ (k : Nat) (h : Int), Sc k (srcD len g c h) := fun k h => sc_src k len g c h
  refine WP.seq ?_
  refine WP.rs T false tok (by rfl) (by exact byObl) ?_
  refine WP.cond (by rfl) (fun hc => WP.skip ?_) (fun hc => WP.exit ?_)
  · obtain ⟨k, rfl⟩ : ∃ k : Nat, i = k := ⟨i.toNat, by have := of_decide_eq_true hc; omega⟩
    have hk0 : 0 < k := by have := of_decide_eq_true hc; omega
    clear hc
    have hnx2 := l01Next_fn len g hg c h1 ((k : Int) + 1) hcl hl
    refine WP.seq (WP.block ?_)
    refine WP.rw ?_
    refine WPL.run T false 3 tok (by rfl) (by exact byObl) ?_
    refine WPL.callE [0] (hnx2) (LeAll.cons (by rfl) (by first | with_reducible exact Root.Le.refl _ | with_reducible exact le_dead | (skip; done) | exact byLeq) (by exact byCon) (trivial)) (by rfl) (by rfl) (by exact byArgs) (by rfl) (by rfl) (by simp [Sc, sc_pl, sc_ds]) ?_
    rintro _ _ ⟨y, c', h2, rfl, hy1, _, hc', rfl⟩
    obtain ⟨y0, y1⟩ := hy1 (by omega)
    obtain ⟨t, rfl⟩ : ∃ t : Nat, y = t := ⟨y.toNat, by omega⟩
    refine ⟨⟨fun d hd => by cases hd; exact sc_src _ _ _ _ _, trivial⟩, .i .i64 (t : Int), ⟨rfl, trivial⟩, trivial, ?_⟩
    refine WPL.mem (by rfl) ?_
    have hSc : ∀ (k : Nat) (h : Int), Sc k (srcD len g c' h) := fun k h => sc_src k len g c' h
    have hb16 := bN_le hn
    have hqk := hq.lt k
    have hqt := hq.lt t
    have hup : Bt (bN n) (up (up q k (q t)) t (q k)) := (hq.up (by omega) hqt).up (by omega) hqk
    refine WPL.fin T false tok (by rfl) (by exact byObl) ?_
    refine WP.rs T false tok (by rfl) (by exact byObl) ?_
    refine WP.rs T false tok (by rfl) (by exact byObl) ?_
    refine WP.ghost (Ghost.cut (Nat.le_refl _) (tauOf [0, 1, 2]) [(0, .p 0 [] 0), (4, .p 1 [] 0), (5, .p 2 [] 0), (6, .i .i64 (k : Int)), (7, .i .i64 (t : Int)), (8, .i .u8 ((q k : Nat) : Int))] [.var (srcD len g c' h2), .var (pl fun _ => 0), .var (pl (up q k (q t)))] (Taken.of [0, 1, 2] (LeAll.cons (by rfl) (by first | with_reducible exact Root.Le.refl _ | with_reducible exact le_dead | (skip; done) | exact byLeq) (by exact byCon) (LeAll.cons (by rfl) (by first | with_reducible exact Root.Le.refl _ | with_reducible exact le_dead | (skip; done) | exact byLeq) (by exact byCon) (LeAll.cons (by rfl) (by first | with_reducible exact Root.Le.refl _ | with_reducible exact le_dead | (skip; done) | exact byLeq) (by exact byCon) (trivial)))) rfl rfl) (by exact bySlots)) ?_
    refine WP.run T false tok (by rfl) (by exact byObl) ?_
    refine WP.run T false tok (by rfl) (by exact byObl) ?_
    refine Again.next (((k : Int) - 1, up (up q k (q t)) t (q k), c', h2)) (Ghost.cut (Nat.le_refl _) (tauOf [0, 1, 2]) _ _ (Taken.of [0, 1, 2] (LeAll.cons (by rfl) (by first | with_reducible exact Root.Le.refl _ | with_reducible exact le_dead | (skip; done) | exact byLeq) (by exact byCon) (LeAll.cons (by rfl) (by first | with_reducible exact Root.Le.refl _ | with_reducible exact le_dead | (skip; done) | exact byLeq) (by exact byCon) (LeAll.cons (by rfl) (by first | with_reducible exact Root.Le.refl _ | with_reducible exact le_dead | (skip; done) | exact byLeq) (by exact byCon) (trivial)))) rfl rfl) (by exact bySlots)) (⟨by omega, hup, hc'⟩) (by dsimp only; omega)
  · refine WP.rs T false tok (by rfl) (by exact byObl) ?_
    exact WP.ret (Ends.newE [0] (⟨q, c, h1, rfl, hq, hcl, rfl⟩) (.inl rfl) (by rfl) (by exact byObl) (LeAll.cons (by rfl) (by first | with_reducible exact Root.Le.refl _ | with_reducible exact le_dead | (skip; done) | exact byLeq) (by exact byCon) (trivial)) rfl rfl (⟨rfl, sc_pl _ _⟩) (sc_pl _ _))

end Go.Proofs.Ytakapfgjdhliaaa
