import Derived.Test.YtakapfgjdhliaaaL0
namespace Go.Proofs.Ytakapfgjdhliaaa
open Go.RowKit DM
set_option linter.unusedSimpArgs false
set_option linter.unusedVariables false
set_option maxRecDepth 100000
set_option maxHeartbeats 1000000
theorem l01In_fn (n lo hi : Int) : FnP Try.prog 75 [.i .i64 n, .i .i64 lo, .i .i64 hi] (.b (decide (lo ≤ n) && decide (n ≤ hi))) := by
  refine FnS.into T tok Try.func75 (by rfl) rfl rfl rfl (by simp) ?_
  refine WP.rs T false tok (by rfl) (by exact byObl) ?_
  refine WP.rw ?_
  refine WPL.run T false 4 tok (by rfl) (by exact byObl) ?_
  cases hc : decide (lo ≤ n)
  · refine WPL.fin T false tok (by rfl) (by exact byObl) ?_
    exact WP.ret (Ends.val (by rfl) (by exact byObl) (by rfl) (by trivial))
  · refine WPL.fin T false tok (by rfl) (by exact byObl) ?_
    exact WP.ret (Ends.val (by rfl) (by exact byObl) (by rfl) (by trivial))

theorem isSize_fn (n : Int) : FnP Try.prog 52 [.i .i64 n] (.b (decide (1 ≤ n) && decide (n ≤ 16))) := by
  refine FnS.into T tok Try.func52 (by rfl) rfl rfl rfl (by simp) ?_
  refine WP.rs T false tok (by rfl) (by exact byObl) ?_
  refine WP.rw ?_
  refine WPL.run T false 3 tok (by rfl) (by exact byObl) ?_
  cases hc : decide (1 ≤ n)
  · refine WPL.fin T false tok (by rfl) (by exact byObl) ?_
    exact WP.ret (Ends.val (by rfl) (by exact byObl) (by rfl) (by trivial))
  · refine WPL.fin T false tok (by rfl) (by exact byObl) ?_
    exact WP.ret (Ends.val (by rfl) (by exact byObl) (by rfl) (by trivial))

end Go.Proofs.Ytakapfgjdhliaaa

namespace Go.Proofs.Ytakapfgjdhliaaa
open Go.RowKit DM
set_option linter.unusedSimpArgs false
set_option linter.unusedVariables false
set_option maxRecDepth 100000
set_option maxHeartbeats 1000000

theorem l01Perm_fn (p : Nat → Nat) (hb : ∀ i, p i < 256) (n : Int) : FnP Try.prog 46 [pl p, .i .i64 n] (.b (permB p n)) := by
  refine FnS.into T tok Try.func46 (by rfl) rfl rfl rfl (by simp) ?_
  refine WP.rs T false tok (by rfl) (by exact byObl) ?_
  refine WP.seq ?_
  refine WP.rw ?_
  refine WPL.run T false 1 tok (by rfl) (by exact byObl) ?_
  refine WPL.call (l01In_fn n 1 16) (by rfl) (by rfl) (by rfl) (by simp [Sc, sc_pl, sc_ds, pl_ne, ds_ne]) ?_
  refine WPL.fin T false tok (by rfl) (by exact byObl) ?_
  refine WP.cond (by rfl) (fun hc => ?_) (fun hc => WP.skip ?_)
  · have e : permB p n = false := permB_false fun h => by simp at hc; omega
    refine WP.rs T false tok (by rfl) (by exact byObl) ?_
    exact WP.ret (Ends.val (by rfl) (by exact byObl) (by rw [e]; rfl) (by trivial))
  obtain ⟨N, rfl⟩ : ∃ N : Nat, n = N := ⟨n.toNat, by simp at hc; omega⟩
  have hN : 1 ≤ N ∧ N ≤ 16 := by simp at hc; omega
  clear hc
  refine WP.rs T false tok (by rfl) (by exact byObl) ?_
  refine WP.seq ?_
  refine WP.rs T false tok (by rfl) (by exact byObl) ?_
  refine WP.block ?_
  refine WP.loopS [4, 6, 11, 12, 13, 14, 15, 16, 17, 18, 19, 20, 21, 22, 23, 24, 25, 26, 27, 28, 29, 30, 31, 32, 33, 34, 35, 36, 37, 38, 39, 40] (fun x : Nat × (Nat → Bool) => x.1 ≤ 16 ∧ Pre N p x.1 ∧ Met N p x.1 x.2) (fun x => [(6, .i .i64 x.1)]) (fun x => [.var (pl p), .var (bl x.2)]) (fun x => 16 - x.1) (0, fun _ => false) ⟨by simp, fun i hi => absurd hi (Nat.not_lt_zero _), fun v => by simp⟩ (by rfl) (by rfl) ?_
  rintro ⟨k, met⟩ ⟨hk, hp, hm⟩ g
  simp only at hk hp hm
  dsimp only
  refine WP.seq ?_
  refine WP.rs T false tok (by rfl) (by exact byObl) ?_
  refine WP.cond (by rfl) (fun hc => WP.skip ?_) (fun hc => WP.exit ?_)
  · have hk : k < 16 := by have := of_decide_eq_true hc; omega
    clear hc
    refine WP.seq (WP.block ?_)
    refine WP.block ?_
    refine WP.rs T false tok (by rfl) (by exact byObl) ?_
    refine WP.cond (by rfl) (fun hc => ?_) (fun hc => ?_)
    · have hc := of_decide_eq_true hc
      refine WP.rs T false tok (by rfl) (by exact byObl) ?_
      refine WP.cond (by rfl) (fun h1 => ?_) (fun h1 => WP.skip ?_)
      · refine WP.rs T false tok (by rfl) (by exact byObl) ?_
        have e : permB p N = false := permB_false fun _ h => by
          have := (h k (by omega)).2 (by simp; omega)
          simp [this] at h1
        exact WP.ret (Ends.val (by rfl) (by exact byObl) (by rw [e]; rfl) (by trivial))
      · have h1 : p k = 0 := by simpa using h1
        refine WP.run T false tok (by rfl) (by exact byObl) ?_
        refine ⟨(k + 1, met), by exact ⟨by omega, hp.over (by omega) h1, hm.over (by omega)⟩, by (simp only []; omega), by (dsimp only; (repeat (first | (with_reducible exact Agree.refl) | ((with_reducible refine Agree.hd ?_); exact rfl) | ((with_reducible refine Agree.fup ?_ ?_); exact rfl) | ((with_reducible refine Agree.inner ?_ ?_ ?_); exact rfl; exact rfl)))), by first | rfl | simp [Slots], by first | rfl | (simp only [upd, pl, dsf, cast1, Int.toNat_natCast, fup_u8, fup_b, fup_i64, dsf_up0, dsf_up1, dsf_up2]; done) | (simp only [upd, pl, dsf, cast1, Int.toNat_natCast, fup_u8, fup_b, fup_i64, dsf_up0, dsf_up1, dsf_up2]; first | (rfl; done) | (rfl; rfl))⟩
    · have hc : k < N := by have := of_decide_eq_false hc; omega
      have hbk := hb k
      refine WP.rw ?_
      refine WPL.run T false 7 tok (by rfl) (by exact byObl) ?_
      cases h1 : decide ((N : Int) ≤ (p (k : Int).toNat : Int))
      · have h1 : p k < N := by have := of_decide_eq_false h1; simp at this; omega
        refine WPL.fin T false tok (by rfl) (by exact byObl) ?_
        refine WP.cond (by rfl) (fun h2 => ?_) (fun h2 => ?_)
        · refine WP.rs T false tok (by rfl) (by exact byObl) ?_
          have e : permB p N = false := permB_false fun _ => by
            simpa using not_pre_met hm hc hk (by simpa using h2)
          exact WP.ret (Ends.val (by rfl) (by exact byObl) (by rw [e]; rfl) (by trivial))
        · have h2 : met (p k) = false := by simpa using h2
          refine WP.run T false tok (by rfl) (by exact byObl) ?_
          refine WP.run T false tok (by rfl) (by exact byObl) ?_
          refine ⟨(k + 1, up met (p k) true), by exact ⟨by omega, hp.step hm hc h1 h2, hm.step hc⟩, by (simp only []; omega), by (dsimp only; (repeat (first | (with_reducible exact Agree.refl) | ((with_reducible refine Agree.hd ?_); exact rfl) | ((with_reducible refine Agree.fup ?_ ?_); exact rfl) | ((with_reducible refine Agree.inner ?_ ?_ ?_); exact rfl; exact rfl)))), by first | rfl | simp [Slots], by first | rfl | (simp only [upd, pl, dsf, cast1, Int.toNat_natCast, fup_u8, fup_b, fup_i64, dsf_up0, dsf_up1, dsf_up2]; done) | (simp only [upd, pl, dsf, cast1, Int.toNat_natCast, fup_u8, fup_b, fup_i64, dsf_up0, dsf_up1, dsf_up2]; first | (rfl; done) | (rfl; rfl))⟩
      · have h1 := of_decide_eq_true h1
        have e : permB p N = false := permB_false fun _ h => by
          have := ((h k (by omega)).1 (by simpa using hc)).1
          simp at h1 this; omega
        refine WPL.fin T false tok (by rfl) (by exact byObl) ?_
        refine WP.cond (by rfl) (fun h2 => ?_) (fun h2 => ?_)
        · refine WP.rs T false tok (by rfl) (by exact byObl) ?_
          exact WP.ret (Ends.val (by rfl) (by exact byObl) (by rw [e]; rfl) (by trivial))
        · cases h2
  · have hk : k = 16 := by have := of_decide_eq_false hc; omega
    subst hk
    have e : permB p N = true := permB_true hN.1 hN.2 hp
    refine WP.rs T false tok (by rfl) (by exact byObl) ?_
    exact WP.ret (Ends.val (by rfl) (by exact byObl) (by rw [e]; rfl) (by trivial))
end Go.Proofs.Ytakapfgjdhliaaa

namespace Go.Proofs.Ytakapfgjdhliaaa
open Go.RowKit DM
set_option linter.unusedSimpArgs false
set_option linter.unusedVariables false
set_option maxRecDepth 100000
set_option maxHeartbeats 1000000

theorem IsPermutation_fn (p : Nat → Nat) (hb : ∀ i, p i < 256) (n : Int) : FnP Try.prog 14 [pl p, .i .i64 n] (.b (permB p n)) := by
  refine FnS.into T tok Try.func14 (by rfl) rfl rfl rfl (by simp) ?_
  refine WP.rs T false tok (by rfl) (by exact byObl) ?_
  refine WP.seq ?_
  refine WP.rw ?_
  refine WPL.run T false 1 tok (by rfl) (by exact byObl) ?_
  refine WPL.call (isSize_fn n) (by rfl) (by rfl) (by rfl) (by simp [Sc, sc_pl, sc_ds, pl_ne, ds_ne]) ?_
  refine WPL.fin T false tok (by rfl) (by exact byObl) ?_
  refine WP.cond (by rfl) (fun hc => ?_) (fun hc => WP.skip ?_)
  · have e : permB p n = false := permB_false fun h => by simp at hc; omega
    refine WP.rs T false tok (by rfl) (by exact byObl) ?_
    exact WP.ret (Ends.val (by rfl) (by exact byObl) (by rw [e]; rfl) (by trivial))
  obtain ⟨N, rfl⟩ : ∃ N : Nat, n = N := ⟨n.toNat, by simp at hc; omega⟩
  have hN : 1 ≤ N ∧ N ≤ 16 := by simp at hc; omega
  clear hc
  refine WP.rs T false tok (by rfl) (by exact byObl) ?_
  refine WP.seq ?_
  refine WP.rs T false tok (by rfl) (by exact byObl) ?_
  refine WP.block ?_
  refine WP.loopS [4, 6, 7, 13, 14, 15, 16, 17, 18, 19, 20, 21, 22, 23, 24, 25, 26, 27, 28, 29, 30, 31, 32, 33] (fun x : Nat × (Nat → Bool) => x.1 ≤ 16 ∧ Pre N p x.1 ∧ Met N p x.1 x.2) (fun x => [(13, .i .i64 x.1)]) (fun x => [.var (pl p), .var (bl x.2)]) (fun x => 16 - x.1) (0, fun _ => false) ⟨by simp, fun i hi => absurd hi (Nat.not_lt_zero _), fun v => by simp⟩ (by rfl) (by rfl) ?_
  rintro ⟨k, met⟩ ⟨hk, hp, hm⟩ g
  simp only at hk hp hm
  dsimp only
  refine WP.rs T false tok (by rfl) (by exact byObl) ?_
  refine WP.seq ?_
  refine WP.cond (by rfl) (fun hc => WP.skip ?_) (fun hc => WP.exit ?_)
  · have hk : k < 16 := by have := of_decide_eq_true hc; omega
    clear hc
    refine WP.seq (WP.block ?_)
    refine WP.rs T false tok (by rfl) (by exact byObl) ?_
    refine WP.seq ?_
    refine WP.rs T false tok (by rfl) (by exact byObl) ?_
    refine WP.cond (by rfl) (fun hc => ?_) (fun hc => WP.skip ?_)
    · have hc := of_decide_eq_true hc
      refine WP.seq ?_
      refine WP.rs T false tok (by rfl) (by exact byObl) ?_
      refine WP.cond (by rfl) (fun h1 => ?_) (fun h1 => WP.skip ?_)
      · refine WP.rs T false tok (by rfl) (by exact byObl) ?_
        have e : permB p N = false := permB_false fun _ h => by
          have := (h k (by omega)).2 (by simp; omega)
          simp [this] at h1
        exact WP.ret (Ends.val (by rfl) (by exact byObl) (by rw [e]; rfl) (by trivial))
      · have h1 : p k = 0 := by simpa using h1
        refine WP.exit ?_
        refine WP.run T false tok (by rfl) (by exact byObl) ?_
        refine ⟨(k + 1, met), by exact ⟨by omega, hp.over (by omega) h1, hm.over (by omega)⟩, by (simp only []; omega), by (dsimp only; (repeat (first | (with_reducible exact Agree.refl) | ((with_reducible refine Agree.hd ?_); exact rfl) | ((with_reducible refine Agree.fup ?_ ?_); exact rfl) | ((with_reducible refine Agree.inner ?_ ?_ ?_); exact rfl; exact rfl)))), by first | rfl | simp [Slots], by first | rfl | (simp only [upd, pl, dsf, cast1, Int.toNat_natCast, fup_u8, fup_b, fup_i64, dsf_up0, dsf_up1, dsf_up2]; done) | (simp only [upd, pl, dsf, cast1, Int.toNat_natCast, fup_u8, fup_b, fup_i64, dsf_up0, dsf_up1, dsf_up2]; first | (rfl; done) | (rfl; rfl))⟩
    · have hc : k < N := by have := of_decide_eq_false hc; omega
      have hbk := hb k
      refine WP.seq ?_
      refine WP.rw ?_
      refine WPL.run T false 5 tok (by rfl) (by exact byObl) ?_
      cases h1 : decide ((N : Int) ≤ (p (k : Int).toNat : Int))
      · have h1 : p k < N := by have := of_decide_eq_false h1; simp at this; omega
        refine WPL.fin T false tok (by rfl) (by exact byObl) ?_
        refine WP.cond (by rfl) (fun h2 => ?_) (fun h2 => WP.skip ?_)
        · refine WP.rs T false tok (by rfl) (by exact byObl) ?_
          have e : permB p N = false := permB_false fun _ => by
            simpa using not_pre_met hm hc hk (by simpa using h2)
          exact WP.ret (Ends.val (by rfl) (by exact byObl) (by rw [e]; rfl) (by trivial))
        · have h2 : met (p k) = false := by simpa using h2
          refine WP.run T false tok (by rfl) (by exact byObl) ?_
          refine WP.run T false tok (by rfl) (by exact byObl) ?_
          refine ⟨(k + 1, up met (p k) true), by exact ⟨by omega, hp.step hm hc h1 h2, hm.step hc⟩, by (simp only []; omega), by (dsimp only; (repeat (first | (with_reducible exact Agree.refl) | ((with_reducible refine Agree.hd ?_); exact rfl) | ((with_reducible refine Agree.fup ?_ ?_); exact rfl) | ((with_reducible refine Agree.inner ?_ ?_ ?_); exact rfl; exact rfl)))), by first | rfl | simp [Slots], by first | rfl | (simp only [upd, pl, dsf, cast1, Int.toNat_natCast, fup_u8, fup_b, fup_i64, dsf_up0, dsf_up1, dsf_up2]; done) | (simp only [upd, pl, dsf, cast1, Int.toNat_natCast, fup_u8, fup_b, fup_i64, dsf_up0, dsf_up1, dsf_up2]; first | (rfl; done) | (rfl; rfl))⟩
      · have h1 := of_decide_eq_true h1
        have e : permB p N = false := permB_false fun _ h => by
          have := ((h k (by omega)).1 (by simpa using hc)).1
          simp at h1 this; omega
        refine WPL.fin T false tok (by rfl) (by exact byObl) ?_
        refine WP.cond (by rfl) (fun h2 => ?_) (fun h2 => WP.skip ?_)
        · refine WP.rs T false tok (by rfl) (by exact byObl) ?_
          exact WP.ret (Ends.val (by rfl) (by exact byObl) (by rw [e]; rfl) (by trivial))
        · cases h2
  · have hk : k = 16 := by have := of_decide_eq_false hc; omega
    subst hk
    have e : permB p N = true := permB_true hN.1 hN.2 hp
    refine WP.rs T false tok (by rfl) (by exact byObl) ?_
    exact WP.ret (Ends.val (by rfl) (by exact byObl) (by rw [e]; rfl) (by trivial))

end Go.Proofs.Ytakapfgjdhliaaa
