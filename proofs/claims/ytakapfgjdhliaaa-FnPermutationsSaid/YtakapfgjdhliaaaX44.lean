import Derived.Test.YtakapfgjdhliaaaL12
import Derived.Test.YtakapfgjdhliaaaX42
/- Orders of permutations: both sides; the law. -/
namespace Go.Proofs.Ytakapfgjdhliaaa
open Go.RowKit DM
set_option linter.unusedSimpArgs false
set_option linter.unusedVariables false
set_option maxRecDepth 100000
set_option maxHeartbeats 1000000

theorem tmodC (x y : Nat) : Int.tmod (x : Int) (y : Int) = ((x % y : Nat) : Int) := (Int.ofNat_tmod x y).symm
theorem tdivC (x y : Nat) : Int.tdiv (x : Int) (y : Int) = ((x / y : Nat) : Int) := (Int.ofNat_tdiv x y).symm

theorem gcd_fn (a b : Nat) (ha : a ≤ 720720) (hb : b ≤ 720720) : FnP Try.prog 77 [.i .i64 (a : Int), .i .i64 (b : Int)] (.i .i64 ((Nat.gcd a b : Nat) : Int)) := by
  refine FnS.into T tok Try.func77 (by rfl) rfl rfl rfl (by simp) ?_
  refine WP.rs T false tok (by rfl) (by exact byObl) ?_
  refine WP.seq (WP.block ?_)
  refine WP.loopH (⟨fun s : Nat × Nat => s.1 ≤ 720720 ∧ s.2 ≤ 720720 ∧ Nat.gcd s.1 s.2 = Nat.gcd a b, fun s => [(0, .i .i64 (s.1 : Int)), (1, .i .i64 (s.2 : Int))], fun s => [], fun s => s.2⟩) ((a, b)) (⟨ha, hb, rfl⟩) (Ghost.cut (Nat.le_refl _) (tauOf []) _ _ (Taken.of [] (trivial) rfl rfl) (by exact bySlots)) ?_
  rintro ⟨x, y⟩ ⟨hx, hy, hg⟩
  simp only at hx hy hg
  dsimp only [Hd.at]
  refine WP.seq ?_
  refine WP.rs T false tok (by rfl) (by exact byObl) ?_
  refine WP.cond (by rfl) (fun hc => WP.skip ?_) (fun hc => WP.exit ?_)
  · have hy0 : y ≠ 0 := by
      intro e; subst e; simp at hc
    clear hc
    have hlt := Nat.mod_lt x (show y > 0 by omega)
    refine WP.block ?_
    refine WP.drawsQ (by kernel_rfl) (by kernel_rfl) ?_
    refine WQ.fin T false tok (by rfl) (by rfl) (by exact byObl) ?_
    rw [tmodC]
    refine Again.next ((y, x % y)) (Ghost.cut (Nat.le_refl _) (tauOf []) _ _ (Taken.of [] (trivial) rfl rfl) (by exact bySlots)) (⟨hy, by omega, by rw [← hg]; simp only; rw [Nat.gcd_comm x y, Nat.gcd_rec y x, Nat.gcd_comm]⟩) (by dsimp only; omega)
  · have hy0 : y = 0 := by simpa using hc
    subst hy0
    rw [Nat.gcd_zero_right] at hg
    refine WP.rw ?_
    refine WPL.run T false 3 tok (by rfl) (by exact byObl) ?_
    refine WPL.op (by rfl) (by rfl) (QOK.op (max_ok rfl rfl rfl)) ?_
    rw [if_neg (show ¬ ((x : Int) < 0 - (x : Int)) by omega), hg]
    refine WPL.fin T false tok (by rfl) (by exact byObl) ?_
    exact WP.ret (Ends.val (by rfl) (by exact byObl) (by rfl) (by trivial))

theorem order_fn (p : Nat → Nat) (n : Nat) (hn : n ≤ 16) (hp : Perm n p) : FnP Try.prog 55 [pl p, .i .i64 n] (.i .i64 ((lcmTo (tyN (cycs p n) n) (tyN (cycs p n) n).length : Nat) : Int)) := by
  have hty := typeOf_fn p n hn hp
  have hlens := cycs_lens hn hp
  have hlen : (cycs p n).length ≤ n := cyTo_len p n
  have hmem : ∀ x ∈ tyN (cycs p n) n, 1 ≤ x ∧ x ≤ 16 := fun x hx => by
    have := dTo_mem _ n n (Nat.le_refl _) x hx; omega
  have hDl := tyN_len hlens
  generalize tyN (cycs p n) n = D at *
  have hle := fun {i} hi => lcmTo_le hmem (i := i) hi
  refine FnS.into T tok Try.func55 (by rfl) rfl rfl rfl (by simp) ?_
  refine WP.rs T false tok (by rfl) (by exact byObl) ?_
  refine WP.rs T false tok (by rfl) (by exact byObl) ?_
  refine WP.seq ?_
  refine WP.rw ?_
  refine WPL.run T false 2 tok (by rfl) (by exact byObl) ?_
  refine WPL.callN [] (.sl 1 0 D.length 1) (hty) (trivial) (by rfl) (by rfl) (by exact byArgs) (by rfl) (by rfl) (by simp [Sc, sc_pl, sc_ds]) (by exact byAllc) (rfl) (by exact bySc) rfl ?_
  refine WPL.fin T false tok (by rfl) (by exact byObl) ?_
  refine WP.block ?_
  refine WP.loopH (⟨fun i : Nat => i ≤ D.length, fun i => [(5, .i .i64 ((lcmTo D i : Nat) : Int)), (10, .sl 0 0 D.length 1), (11, .i .i64 (D.length : Int)), (12, .i .i64 (i : Int))], fun i => [.row 2 D.length 1 (numsF D)], fun i => D.length - i⟩) (0) (Nat.zero_le _) (Ghost.cut (Nat.le_refl _) (tauOf [1]) _ _ (Taken.of [1] (LeAll.cons (by rfl) (by first | with_reducible exact Root.Le.refl _ | with_reducible exact le_dead | (skip; done) | exact byLeq) (by exact byCon) (trivial)) rfl rfl) (by exact bySlots)) ?_
  intro i hi
  dsimp only at hi
  dsimp only [Hd.at]
  refine WP.rs T false tok (by rfl) (by exact byObl) ?_
  refine WP.seq ?_
  refine WP.cond (by rfl) (fun hc => WP.skip ?_) (fun hc => WP.exit ?_)
  · have hi : i < D.length := by have := of_decide_eq_true hc; omega
    clear hc
    obtain ⟨h1, h2⟩ := hle (i := i) (by omega)
    obtain ⟨h3, h4⟩ := hle (i := i + 1) (by omega)
    have hx := hmem _ (getD_mem hi)
    have hg := Nat.gcd_pos_of_pos_left (D.getD i 0) h1
    have hst : lcmTo D (i + 1) = lcmTo D i / Nat.gcd (lcmTo D i) (D.getD i 0) * D.getD i 0 := rfl
    have hdl := Nat.div_le_self (lcmTo D i) (Nat.gcd (lcmTo D i) (D.getD i 0))
    have hcall := gcd_fn (lcmTo D i) (D.getD i 0) h2 (by omega)
    generalize hG : Nat.gcd (lcmTo D i) (D.getD i 0) = G at *
    refine WP.seq (WP.block ?_)
    refine WP.rs T false tok (by rfl) (by exact byObl) ?_
    have hdl0 : (0 : Int) ≤ ((lcmTo D i / G : Nat) : Int) := Int.natCast_nonneg _
    have hmul : (((lcmTo D i / G : Nat) : Int)) * ((D.getD i 0 : Nat) : Int) = ((lcmTo D (i + 1) : Nat) : Int) := by rw [hst]; exact (Int.natCast_mul _ _).symm
    refine WP.region ?_
    refine WPL.run T false 3 tok (by rfl) (by exact byObl) ?_
    refine WPL.call (hcall) (by rfl) (by rfl) (by rfl) (by simp [Sc, sc_pl, sc_ds, pl_ne, ds_ne]) ?_
    refine WPL.run T false 1 tok (by rfl) (by (simp only [tdivC]; show (((G : Nat) : Int) ≠ 0) ∧ InR .i64 (((lcmTo D i / G : Nat)) : Int); refine ⟨by omega, ?_⟩; simp only [InR]; omega)) ?_
    rw [tdivC]
    refine WPL.run T false 2 tok (by rfl) (by (show InR .i64 ((((lcmTo D i / G : Nat) : Int)) * ((D.getD i 0 : Nat) : Int)); rw [hmul]; simp only [InR]; omega)) ?_
    have hmul' : (((lcmTo D i / G : Nat) : Int)) * ((D.getD (addrAt 0 ((i : Nat) : Int).toNat) 0 : Nat) : Int) = ((lcmTo D (i + 1) : Nat) : Int) := hmul
    rw [hmul']
    refine WPL.fin T false tok (by rfl) (by exact byObl) ?_
    refine WP.run T false tok (by rfl) (by exact byObl) ?_
    refine Again.next (i + 1) (Ghost.cut (Nat.le_refl _) (tauOf [0]) _ _ (Taken.of [0] (LeAll.cons (by rfl) (by first | with_reducible exact Root.Le.refl _ | with_reducible exact le_dead | (skip; done) | exact byLeq) (by exact byCon) (trivial)) rfl rfl) (by exact bySlots)) (hi) (by dsimp only; omega)
  · have hi : i = D.length := by have := of_decide_eq_false hc; omega
    subst hi
    refine WP.rs T false tok (by rfl) (by exact byObl) ?_
    exact WP.ret (Ends.val (by rfl) (by exact byObl) (by rfl) (by trivial))

theorem l01Common_fn (D : List Nat) (hl : D.length ≤ 65536) (hmem : ∀ x ∈ D, 1 ≤ x ∧ x ≤ 16) : FnR Try.prog 57 [.sl 0 0 D.length 1] [.ro D.length 1 (numsF D)] (.i .i64 ((lcmTo D D.length : Nat) : Int)) := by
  have hle := fun {i} hi => lcmTo_le hmem (i := i) hi
  refine FnS.into T tok Try.func57 (by rfl) rfl rfl rfl (by simp) ?_
  refine WP.rs T false tok (by rfl) (by exact byObl) ?_
  refine WP.rs T false tok (by rfl) (by exact byObl) ?_
  refine WP.seq ?_
  refine WP.rs T false tok (by rfl) (by exact byObl) ?_
  refine WP.block ?_
  refine WP.loopH (⟨fun i : Nat => i ≤ D.length, fun i => [(0, .sl 0 0 D.length 1), (3, .i .i64 ((lcmTo D i : Nat) : Int)), (4, .i .i64 (i : Int))], fun i => [.ro D.length 1 (numsF D)], fun i => D.length - i⟩) (0) (Nat.zero_le _) (Ghost.cut (Nat.le_refl _) (tauOf [0]) _ _ (Taken.of [0] (LeAll.cons (by rfl) (by first | with_reducible exact Root.Le.refl _ | with_reducible exact le_dead | (skip; done) | exact byLeq) (by exact byCon) (trivial)) rfl rfl) (by exact bySlots)) ?_
  intro i hi
  dsimp only at hi
  dsimp only [Hd.at]
  refine WP.seq ?_
  refine WP.rs T false tok (by rfl) (by exact byObl) ?_
  refine WP.cond (by rfl) (fun hc => WP.skip ?_) (fun hc => WP.exit ?_)
  · have hi : i < D.length := by have := of_decide_eq_true hc; omega
    clear hc
    obtain ⟨h1, h2⟩ := hle (i := i) (by omega)
    obtain ⟨h3, h4⟩ := hle (i := i + 1) (by omega)
    have hx := hmem _ (getD_mem hi)
    have hg := Nat.gcd_pos_of_pos_left (D.getD i 0) h1
    have hst : lcmTo D (i + 1) = lcmTo D i / Nat.gcd (lcmTo D i) (D.getD i 0) * D.getD i 0 := rfl
    have hdl := Nat.div_le_self (lcmTo D i) (Nat.gcd (lcmTo D i) (D.getD i 0))
    generalize hG : Nat.gcd (lcmTo D i) (D.getD i 0) = G at *
    have hdl0 : (0 : Int) ≤ ((lcmTo D i / G : Nat) : Int) := Int.natCast_nonneg _
    have hmul : (((lcmTo D i / G : Nat) : Int)) * ((D.getD i 0 : Nat) : Int) = ((lcmTo D (i + 1) : Nat) : Int) := by rw [hst]; exact (Int.natCast_mul _ _).symm
    refine WP.seq (WP.block ?_)
    refine WP.dw (by kernel_rfl) (by kernel_rfl) ?_
    refine WQ.fin T false tok (by rfl) (by rfl) (by exact byObl) ?_
    refine WP.seq (WP.block ?_)
    refine WP.loopH (⟨fun s : Nat × Nat => s.1 ≤ 720720 ∧ s.2 ≤ 720720 ∧ Nat.gcd s.1 s.2 = G, fun s => [(0, .sl 0 0 D.length 1), (3, .i .i64 ((lcmTo D i : Nat) : Int)), (4, .i .i64 (i : Int)), (5, .i .i64 (s.1 : Int)), (6, .i .i64 (s.2 : Int))], fun s => [.ro D.length 1 (numsF D)], fun s => s.2⟩) ((lcmTo D i, D.getD i 0)) (⟨h2, by simp only; omega, hG⟩) (Ghost.cut (Nat.le_refl _) (tauOf [0]) _ _ (Taken.of [0] (LeAll.cons (by rfl) (by first | with_reducible exact Root.Le.refl _ | with_reducible exact le_dead | (skip; done) | exact byLeq) (by exact byCon) (trivial)) rfl rfl) (by exact bySlots)) ?_
    rintro ⟨x, y⟩ ⟨gx, gy, gg⟩
    simp only at gx gy gg
    dsimp only [Hd.at]
    refine WP.seq ?_
    refine WP.rs T false tok (by rfl) (by exact byObl) ?_
    refine WP.cond (by rfl) (fun hc => WP.skip ?_) (fun hc => WP.exit ?_)
    · have hy0 : 0 < y := by have := of_decide_eq_true hc; omega
      clear hc
      have hlt := Nat.mod_lt x hy0
      refine WP.block ?_
      refine WP.rs T false tok (by rfl) (by exact byObl) ?_
      rw [tmodC]
      refine WP.rs T false tok (by rfl) (by exact byObl) ?_
      refine WP.run T false tok (by rfl) (by exact byObl) ?_
      refine Again.next ((y, x % y)) (Ghost.cut (Nat.le_refl _) (tauOf [0]) _ _ (Taken.of [0] (LeAll.cons (by rfl) (by first | with_reducible exact Root.Le.refl _ | with_reducible exact le_dead | (skip; done) | exact byLeq) (by exact byCon) (trivial)) rfl rfl) (by exact bySlots)) (⟨gy, by omega, by rw [← gg]; simp only; rw [Nat.gcd_comm x y, Nat.gcd_rec y x, Nat.gcd_comm]⟩) (by dsimp only; omega)
    · have hy0 : y = 0 := by have := of_decide_eq_false hc; omega
      subst hy0
      rw [Nat.gcd_zero_right] at gg
      subst gg
      refine WP.drawsQ (by kernel_rfl) (by kernel_rfl) ?_
      refine WQ.run T false 3 tok (by rfl) (by rfl) (by (simp only [tdivC]; show ((x : Int) ≠ 0) ∧ InR .i64 (((lcmTo D i / x : Nat)) : Int); refine ⟨by omega, ?_⟩; simp only [InR]; omega)) ?_
      rw [tdivC]
      refine WQ.run T false 4 tok (by rfl) (by rfl) (by exact byObl) ?_
      refine WQ.run T false 1 tok (by rfl) (by rfl) (by (show InR .i64 ((((lcmTo D i / x : Nat) : Int)) * ((D.getD i 0 : Nat) : Int)); rw [hmul]; simp only [InR]; omega)) ?_
      have hmul' : (((lcmTo D i / x : Nat) : Int)) * ((D.getD (addrAt 0 ((i : Nat) : Int).toNat) 0 : Nat) : Int) = ((lcmTo D (i + 1) : Nat) : Int) := hmul
      rw [hmul']
      refine WQ.fin T false tok (by rfl) (by rfl) (by exact byObl) ?_
      refine WP.run T false tok (by rfl) (by exact byObl) ?_
      refine Again.next (i + 1) (Ghost.cut (Nat.le_refl _) (tauOf [0]) _ _ (Taken.of [0] (LeAll.cons (by rfl) (by first | with_reducible exact Root.Le.refl _ | with_reducible exact le_dead | (skip; done) | exact byLeq) (by exact byCon) (trivial)) rfl rfl) (by exact bySlots)) (hi) (by dsimp only; omega)
  · have hi : i = D.length := by have := of_decide_eq_false hc; omega
    subst hi
    refine WP.rs T false tok (by rfl) (by exact byObl) ?_
    exact WP.ret (Ends.val (by rfl) (by exact byObl) (by rfl) (by trivial))

noncomputable def ordR (p : Nat → Nat) (n : Int) : Dat := bif permB p n then t2 (.i .i64 ((lcmTo (tyN (cycs p n.toNat) n.toNat) (tyN (cycs p n.toNat) n.toNat).length : Nat) : Int)) (.i .i64 0) else t2 (.i .i64 0) (.i .i64 1)

theorem ordR_form (p : Nat → Nat) (n : Int) : ∃ r c, ordR p n = t2 (.i .i64 r) (.i .i64 c) := by
  unfold ordR
  cases permB p n with
  | true => exact ⟨_, _, rfl⟩
  | false => exact ⟨_, _, rfl⟩

theorem specOrder_fn (p : Nat → Nat) (hb : ∀ i, p i < 256) (n : Int) : FnP Try.prog 24 [pl p, .i .i64 n] (ordR p n) := by
  refine FnS.into T tok Try.func24 (by rfl) rfl rfl rfl (by simp) ?_
  refine WP.rs T false tok (by rfl) (by exact byObl) ?_
  refine WP.seq ?_
  cases hc : permB p n
  · have e : ordR p n = t2 (.i .i64 0) (.i .i64 1) := by unfold ordR; rw [hc]; rfl
    refine WP.rw ?_
    refine WPL.run T false 2 tok (by rfl) (by exact byObl) ?_
    refine WPL.call (hc ▸ l01Perm_fn p hb n) (by rfl) (by rfl) (by rfl) (by simp [Sc, sc_pl, sc_ds, pl_ne, ds_ne]) ?_
    refine WPL.fin T false tok (by rfl) (by exact byObl) ?_
    refine WP.cond (by rfl) (fun h => ?_) (fun h => WP.skip ?_)
    · refine WP.rs T false tok (by rfl) (by exact byObl) ?_
      rw [e]
      exact WP.ret (Ends.val (by rfl) (by exact byObl) (by rfl) (by exact sc_t2 trivial trivial))
    · cases h
  · obtain ⟨N, rfl, h1, h2, hP⟩ := perm_of_B hc
    have hlens := cycs_lens h2 hP
    have hlen : (cycs p N).length ≤ N := cyTo_len p N
    have hmem : ∀ x ∈ tyN (cycs p N) N, 1 ≤ x ∧ x ≤ 16 := fun x hx => by
      have := dTo_mem _ N N (Nat.le_refl _) x hx; omega
    have hDl := tyN_len hlens
    have hty := l01Type_fn p N h2 hP
    have e : ordR p N = t2 (.i .i64 ((lcmTo (tyN (cycs p N) N) (tyN (cycs p N) N).length : Nat) : Int)) (.i .i64 0) := by unfold ordR; rw [hc]; rfl
    rw [e]
    generalize tyN (cycs p N) N = D at *
    refine WP.rw ?_
    refine WPL.run T false 2 tok (by rfl) (by exact byObl) ?_
    refine WPL.call (hc ▸ l01Perm_fn p hb N) (by rfl) (by rfl) (by rfl) (by simp [Sc, sc_pl, sc_ds, pl_ne, ds_ne]) ?_
    refine WPL.fin T false tok (by rfl) (by exact byObl) ?_
    refine WP.cond (by rfl) (fun h => ?_) (fun h => WP.skip ?_)
    · cases h
    refine WP.rw ?_
    refine WPL.run T false 2 tok (by rfl) (by exact byObl) ?_
    refine WPL.callN [] (.sl 1 0 D.length 1) (hty) (trivial) (by rfl) (by rfl) (by exact byArgs) (by rfl) (by rfl) (by simp [Sc, sc_pl, sc_ds]) (by exact byAllc) (rfl) (by exact bySc) rfl ?_
    refine WPL.callR [1] (l01Common_fn D (by omega) hmem) (by rfl) (LeAll.cons (by rfl) (by first | with_reducible exact Root.Le.refl _ | with_reducible exact le_dead | (skip; done) | exact byLeq) (by exact byCon) (trivial)) (by exact byArgs) (by rfl) (by rfl) (by simp [Sc, sc_pl, sc_ds]) ?_
    refine WPL.fin T false tok (by rfl) (by exact byObl) ?_
    exact WP.ret (Ends.val (by rfl) (by exact byObl) (by rfl) (by exact sc_t2 trivial trivial))

theorem implOrder_fn (p : Nat → Nat) (hb : ∀ i, p i < 256) (n : Int) : FnP Try.prog 21 [pl p, .i .i64 n] (ordR p n) := by
  refine FnS.into T tok Try.func21 (by rfl) rfl rfl rfl (by simp) ?_
  refine WP.rs T false tok (by rfl) (by exact byObl) ?_
  refine WP.seq ?_
  cases hc : permB p n
  · have e : ordR p n = t2 (.i .i64 0) (.i .i64 1) := by unfold ordR; rw [hc]; rfl
    refine WP.rw ?_
    refine WPL.run T false 2 tok (by rfl) (by exact byObl) ?_
    refine WPL.call (hc ▸ IsPermutation_fn p hb n) (by rfl) (by rfl) (by rfl) (by simp [Sc, sc_pl, sc_ds, pl_ne, ds_ne]) ?_
    refine WPL.fin T false tok (by rfl) (by exact byObl) ?_
    refine WP.cond (by rfl) (fun h => ?_) (fun h => WP.skip ?_)
    · refine WP.rs T false tok (by rfl) (by exact byObl) ?_
      rw [e]
      exact WP.ret (Ends.val (by rfl) (by exact byObl) (by rfl) (by exact sc_t2 trivial trivial))
    · cases h
  · obtain ⟨N, rfl, h1, h2, hP⟩ := perm_of_B hc
    have e : ordR p N = t2 (.i .i64 ((lcmTo (tyN (cycs p N) N) (tyN (cycs p N) N).length : Nat) : Int)) (.i .i64 0) := by unfold ordR; rw [hc]; rfl
    refine WP.rw ?_
    refine WPL.run T false 2 tok (by rfl) (by exact byObl) ?_
    refine WPL.call (hc ▸ IsPermutation_fn p hb N) (by rfl) (by rfl) (by rfl) (by simp [Sc, sc_pl, sc_ds, pl_ne, ds_ne]) ?_
    refine WPL.fin T false tok (by rfl) (by exact byObl) ?_
    refine WP.cond (by rfl) (fun h => ?_) (fun h => WP.skip ?_)
    · cases h
    refine WP.rw ?_
    refine WPL.run T false 2 tok (by rfl) (by exact byObl) ?_
    refine WPL.call (order_fn p N h2 hP) (by rfl) (by rfl) (by rfl) (by simp [Sc, sc_pl, sc_ds, pl_ne, ds_ne]) ?_
    refine WPL.fin T false tok (by rfl) (by exact byObl) ?_
    rw [e]
    exact WP.ret (Ends.val (by rfl) (by exact byObl) (by rfl) (by exact sc_t2 trivial trivial))

end Go.Proofs.Ytakapfgjdhliaaa
