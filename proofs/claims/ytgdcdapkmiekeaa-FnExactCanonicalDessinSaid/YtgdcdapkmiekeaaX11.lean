/- Signs: both sides; the law. -/
import Derived.Test.YtgdcdapkmiekeaaX10
namespace Go.Proofs.Ytgdcdapkmiekeaa
open Go.RowKit DM
set_option linter.unusedSimpArgs false
set_option linter.unusedVariables false
set_option maxRecDepth 100000
set_option maxHeartbeats 1000000

theorem cycs_len (p : Nat → Nat) (n : Nat) : (cycs p n).length ≤ n := cyTo_len p n

def signV (p : Nat → Nat) (n : Nat) : Int := if (n - (cycs p n).length) % 2 = 0 then 1 else -1

theorem tmodN (k : Nat) (d : Nat) : ((k : Int)).tmod (d : Int) = ((k % d : Nat) : Int) := by rw [Int.tmod_eq_emod_of_nonneg (by omega)]; simp

theorem sign_fn (p : Nat → Nat) (n : Nat) (hn : n ≤ 16) (hp : ∀ i, i < n → p i < n) : FnP Try.prog 66 [pl p, .i .i64 n] (.i .i64 (signV p n)) := by
  have hl := cycs_len p n
  have e1 : (n : Int) - ((cycs p n).length : Int) = ((n - (cycs p n).length : Nat) : Int) := by omega
  have e2 := tmodN (n - (cycs p n).length) 2
  refine FnS.into T tok Try.func66 (by rfl) rfl rfl rfl (by simp) ?_
  refine WP.rs T false tok (by rfl) (by first | trivial | (simp only [Int.toNat_natCast, addrAt0, List.nil_append, List.cons_append, List.append_nil, AllP, plE, InR, Root.holds, Root.readL] <;> and_intros <;> first | omega | assumption | (show _ ≤ _; omega) | (show _ < _; omega) | (show _ ≠ _; omega) | exact rfl | trivial | exact pl_ds _ _ _ | exact pl_st3 trivial (pl_pl _) (pl_pl _) | exact fun _ _ => trivial)) ?_
  refine WP.seq ?_
  refine WP.rw ?_
  refine WPL.run T false 3 tok (by rfl) (by first | trivial | (simp only [Int.toNat_natCast, addrAt0, List.nil_append, List.cons_append, List.append_nil, AllP, plE, InR, Root.holds, Root.readL] <;> and_intros <;> first | omega | assumption | (show _ ≤ _; omega) | (show _ < _; omega) | (show _ ≠ _; omega) | exact rfl | trivial | exact pl_ds _ _ _ | exact pl_st3 trivial (pl_pl _) (pl_pl _) | exact fun _ _ => trivial)) ?_
  refine WPL.callN [] (.sl 1 0 (cycs p n).length 1) (cycles_fn p n hn hp) (trivial) (by rfl) (by rfl) (by repeat (first | exact trivial | (refine ArgsR.cons ?_ (by rfl) ?_) | exact (show _ = _ ∧ _ from ⟨rfl, by first | trivial | exact sc_pl _ _ | exact sc_ds _ _ _ _⟩) | exact (show _ = _ from rfl))) (by rfl) (by rfl) (by simp [Sc, sc_pl, sc_ds]) (by repeat (first | exact trivial | (refine ⟨(by intro d hd; cases hd; (first | trivial | exact sc_p rfl | exact hSc _ _ | exact sc_sl rfl | exact sc_pl _ _ | exact sc_ds _ _ _ _ | exact fun _ _ => trivial | exact fun _ _ _ _ => trivial | (refine sc_t2 ?_ ?_ <;> first | trivial | exact sc_sl rfl | exact sc_pl _ _ | exact sc_ds _ _ _ _))), ?_⟩))) (rfl) (by (first | trivial | exact sc_p rfl | exact hSc _ _ | exact sc_sl rfl | exact sc_pl _ _ | exact sc_ds _ _ _ _ | exact fun _ _ => trivial | exact fun _ _ _ _ => trivial | (refine sc_t2 ?_ ?_ <;> first | trivial | exact sc_sl rfl | exact sc_pl _ _ | exact sc_ds _ _ _ _))) rfl ?_
  refine WPL.fin T false tok (by rfl) (by first | trivial | (simp only [Int.toNat_natCast, addrAt0, List.nil_append, List.cons_append, List.append_nil, AllP, plE, InR, Root.holds, Root.readL] <;> and_intros <;> first | omega | assumption | (show _ ≤ _; omega) | (show _ < _; omega) | (show _ ≠ _; omega) | exact rfl | trivial | exact pl_ds _ _ _ | exact pl_st3 trivial (pl_pl _) (pl_pl _) | exact fun _ _ => trivial)) ?_
  refine WP.cond (by rfl) (fun hc => ?_) (fun hc => WP.skip ?_)
  · have hc := of_decide_eq_true hc
    have e : signV p n = 1 := by unfold signV; rw [if_pos]; rw [e1] at hc; have := e2.symm.trans hc; omega
    rw [e]
    refine WP.rs T false tok (by rfl) (by first | trivial | (simp only [Int.toNat_natCast, addrAt0, List.nil_append, List.cons_append, List.append_nil, AllP, plE, InR, Root.holds, Root.readL] <;> and_intros <;> first | omega | assumption | (show _ ≤ _; omega) | (show _ < _; omega) | (show _ ≠ _; omega) | exact rfl | trivial | exact pl_ds _ _ _ | exact pl_st3 trivial (pl_pl _) (pl_pl _) | exact fun _ _ => trivial)) ?_
    exact WP.ret (Ends.val (by rfl) (by first | trivial | (simp only [Int.toNat_natCast, addrAt0, List.nil_append, List.cons_append, List.append_nil, AllP, plE, InR, Root.holds, Root.readL] <;> and_intros <;> first | omega | assumption | (show _ ≤ _; omega) | (show _ < _; omega) | (show _ ≠ _; omega) | exact rfl | trivial | exact pl_ds _ _ _ | exact pl_st3 trivial (pl_pl _) (pl_pl _) | exact fun _ _ => trivial)) (by rfl) (by trivial))
  · have hc := of_decide_eq_false hc
    have e : signV p n = -1 := by unfold signV; rw [if_neg]; intro h; exact hc (by rw [e1]; exact e2.trans (by omega))
    rw [e]
    refine WP.rs T false tok (by rfl) (by first | trivial | (simp only [Int.toNat_natCast, addrAt0, List.nil_append, List.cons_append, List.append_nil, AllP, plE, InR, Root.holds, Root.readL] <;> and_intros <;> first | omega | assumption | (show _ ≤ _; omega) | (show _ < _; omega) | (show _ ≠ _; omega) | exact rfl | trivial | exact pl_ds _ _ _ | exact pl_st3 trivial (pl_pl _) (pl_pl _) | exact fun _ _ => trivial)) ?_
    exact WP.ret (Ends.val (by rfl) (by first | trivial | (simp only [Int.toNat_natCast, addrAt0, List.nil_append, List.cons_append, List.append_nil, AllP, plE, InR, Root.holds, Root.readL] <;> and_intros <;> first | omega | assumption | (show _ ≤ _; omega) | (show _ < _; omega) | (show _ ≠ _; omega) | exact rfl | trivial | exact pl_ds _ _ _ | exact pl_st3 trivial (pl_pl _) (pl_pl _) | exact fun _ _ => trivial)) (by rfl) (by trivial))

noncomputable def signR (p : Nat → Nat) (n : Int) : Dat := bif permB p n then t2 (.i .i64 (signV p n.toNat)) (.i .i64 0) else t2 (.i .i64 0) (.i .i64 1)

theorem signR_form (p : Nat → Nat) (n : Int) : ∃ r c, signR p n = t2 (.i .i64 r) (.i .i64 c) := by
  unfold signR
  cases permB p n with
  | true => exact ⟨_, _, rfl⟩
  | false => exact ⟨_, _, rfl⟩

theorem specSign_fn (p : Nat → Nat) (hb : ∀ i, p i < 256) (n : Int) : FnP Try.prog 18 [pl p, .i .i64 n] (signR p n) := by
  refine FnS.into T tok Try.func18 (by rfl) rfl rfl rfl (by simp) ?_
  refine WP.rs T false tok (by rfl) (by first | trivial | (simp only [Int.toNat_natCast, addrAt0, List.nil_append, List.cons_append, List.append_nil, AllP, plE, InR, Root.holds, Root.readL] <;> and_intros <;> first | omega | assumption | (show _ ≤ _; omega) | (show _ < _; omega) | (show _ ≠ _; omega) | exact rfl | trivial | exact pl_ds _ _ _ | exact pl_st3 trivial (pl_pl _) (pl_pl _) | exact fun _ _ => trivial)) ?_
  refine WP.seq ?_
  cases hc : permB p n
  · have e : signR p n = t2 (.i .i64 0) (.i .i64 1) := by unfold signR; rw [hc]; rfl
    refine WP.rw ?_
    refine WPL.run T false 2 tok (by rfl) (by first | trivial | (simp only [Int.toNat_natCast, addrAt0, List.nil_append, List.cons_append, List.append_nil, AllP, plE, InR, Root.holds, Root.readL] <;> and_intros <;> first | omega | assumption | (show _ ≤ _; omega) | (show _ < _; omega) | (show _ ≠ _; omega) | exact rfl | trivial | exact pl_ds _ _ _ | exact pl_st3 trivial (pl_pl _) (pl_pl _) | exact fun _ _ => trivial)) ?_
    refine WPL.call (hc ▸ l01Perm_fn p hb n) (by rfl) (by rfl) (by rfl) (by simp [Sc, sc_pl, sc_ds, pl_ne, ds_ne]) ?_
    refine WPL.fin T false tok (by rfl) (by first | trivial | (simp only [Int.toNat_natCast, addrAt0, List.nil_append, List.cons_append, List.append_nil, AllP, plE, InR, Root.holds, Root.readL] <;> and_intros <;> first | omega | assumption | (show _ ≤ _; omega) | (show _ < _; omega) | (show _ ≠ _; omega) | exact rfl | trivial | exact pl_ds _ _ _ | exact pl_st3 trivial (pl_pl _) (pl_pl _) | exact fun _ _ => trivial)) ?_
    refine WP.cond (by rfl) (fun h => ?_) (fun h => WP.skip ?_)
    · refine WP.rs T false tok (by rfl) (by first | trivial | (simp only [Int.toNat_natCast, addrAt0, List.nil_append, List.cons_append, List.append_nil, AllP, plE, InR, Root.holds, Root.readL] <;> and_intros <;> first | omega | assumption | (show _ ≤ _; omega) | (show _ < _; omega) | (show _ ≠ _; omega) | exact rfl | trivial | exact pl_ds _ _ _ | exact pl_st3 trivial (pl_pl _) (pl_pl _) | exact fun _ _ => trivial)) ?_
      rw [e]
      exact WP.ret (Ends.val (by rfl) (by first | trivial | (simp only [Int.toNat_natCast, addrAt0, List.nil_append, List.cons_append, List.append_nil, AllP, plE, InR, Root.holds, Root.readL] <;> and_intros <;> first | omega | assumption | (show _ ≤ _; omega) | (show _ < _; omega) | (show _ ≠ _; omega) | exact rfl | trivial | exact pl_ds _ _ _ | exact pl_st3 trivial (pl_pl _) (pl_pl _) | exact fun _ _ => trivial)) (by rfl) (by exact sc_t2 trivial trivial))
    · cases h
  · obtain ⟨N, rfl, h1, h2, hP⟩ := perm_of_B hc
    have hl := cycs_len p N
    have e1 : (N : Int) - ((cycs p N).length : Int) = ((N - (cycs p N).length : Nat) : Int) := by omega
    have e2 := tmodN (N - (cycs p N).length) 2
    have e : signR p N = t2 (.i .i64 (1 - 2 * ((N : Int) - ((cycs p N).length : Int)).tmod 2)) (.i .i64 0) := by
      unfold signR
      rw [hc, e1]
      show t2 (.i .i64 (signV p N)) _ = t2 (.i .i64 (1 - 2 * ((N - (cycs p N).length : Nat) : Int).tmod ((2 : Nat) : Int))) _
      rw [e2]
      congr 2
      unfold signV
      split <;> omega
    have hm : 0 ≤ ((N : Int) - ((cycs p N).length : Int)).tmod 2 ∧ ((N : Int) - ((cycs p N).length : Int)).tmod 2 < 2 := by
      rw [e1]
      have : ((N - (cycs p N).length : Nat) : Int).tmod 2 = _ := e2
      rw [this]; omega
    refine WP.rw ?_
    refine WPL.run T false 2 tok (by rfl) (by first | trivial | (simp only [Int.toNat_natCast, addrAt0, List.nil_append, List.cons_append, List.append_nil, AllP, plE, InR, Root.holds, Root.readL] <;> and_intros <;> first | omega | assumption | (show _ ≤ _; omega) | (show _ < _; omega) | (show _ ≠ _; omega) | exact rfl | trivial | exact pl_ds _ _ _ | exact pl_st3 trivial (pl_pl _) (pl_pl _) | exact fun _ _ => trivial)) ?_
    refine WPL.call (hc ▸ l01Perm_fn p hb N) (by rfl) (by rfl) (by rfl) (by simp [Sc, sc_pl, sc_ds, pl_ne, ds_ne]) ?_
    refine WPL.fin T false tok (by rfl) (by first | trivial | (simp only [Int.toNat_natCast, addrAt0, List.nil_append, List.cons_append, List.append_nil, AllP, plE, InR, Root.holds, Root.readL] <;> and_intros <;> first | omega | assumption | (show _ ≤ _; omega) | (show _ < _; omega) | (show _ ≠ _; omega) | exact rfl | trivial | exact pl_ds _ _ _ | exact pl_st3 trivial (pl_pl _) (pl_pl _) | exact fun _ _ => trivial)) ?_
    refine WP.cond (by rfl) (fun h => ?_) (fun h => WP.skip ?_)
    · cases h
    refine WP.rw ?_
    refine WPL.run T false 3 tok (by rfl) (by first | trivial | (simp only [Int.toNat_natCast, addrAt0, List.nil_append, List.cons_append, List.append_nil, AllP, plE, InR, Root.holds, Root.readL] <;> and_intros <;> first | omega | assumption | (show _ ≤ _; omega) | (show _ < _; omega) | (show _ ≠ _; omega) | exact rfl | trivial | exact pl_ds _ _ _ | exact pl_st3 trivial (pl_pl _) (pl_pl _) | exact fun _ _ => trivial)) ?_
    refine WPL.callN [] (.sl 1 0 (cycs p N).length 1) (l01Cycles_fn p N h2 hP.lt) (trivial) (by rfl) (by rfl) (by repeat (first | exact trivial | (refine ArgsR.cons ?_ (by rfl) ?_) | exact (show _ = _ ∧ _ from ⟨rfl, by first | trivial | exact sc_pl _ _ | exact sc_ds _ _ _ _⟩) | exact (show _ = _ from rfl))) (by rfl) (by rfl) (by simp [Sc, sc_pl, sc_ds]) (by repeat (first | exact trivial | (refine ⟨(by intro d hd; cases hd; (first | trivial | exact sc_p rfl | exact hSc _ _ | exact sc_sl rfl | exact sc_pl _ _ | exact sc_ds _ _ _ _ | exact fun _ _ => trivial | exact fun _ _ _ _ => trivial | (refine sc_t2 ?_ ?_ <;> first | trivial | exact sc_sl rfl | exact sc_pl _ _ | exact sc_ds _ _ _ _))), ?_⟩))) (rfl) (by (first | trivial | exact sc_p rfl | exact hSc _ _ | exact sc_sl rfl | exact sc_pl _ _ | exact sc_ds _ _ _ _ | exact fun _ _ => trivial | exact fun _ _ _ _ => trivial | (refine sc_t2 ?_ ?_ <;> first | trivial | exact sc_sl rfl | exact sc_pl _ _ | exact sc_ds _ _ _ _))) rfl ?_
    refine WPL.fin T false tok (by rfl) (by first | trivial | (simp only [Int.toNat_natCast, addrAt0, List.nil_append, List.cons_append, List.append_nil, AllP, plE, InR, Root.holds, Root.readL] <;> and_intros <;> first | omega | assumption | (show _ ≤ _; omega) | (show _ < _; omega) | (show _ ≠ _; omega) | exact rfl | trivial | exact pl_ds _ _ _ | exact pl_st3 trivial (pl_pl _) (pl_pl _) | exact fun _ _ => trivial)) ?_
    rw [e]
    exact WP.ret (Ends.val (by rfl) (by first | trivial | (simp only [Int.toNat_natCast, addrAt0, List.nil_append, List.cons_append, List.append_nil, AllP, plE, InR, Root.holds, Root.readL] <;> and_intros <;> first | omega | assumption | (show _ ≤ _; omega) | (show _ < _; omega) | (show _ ≠ _; omega) | exact rfl | trivial | exact pl_ds _ _ _ | exact pl_st3 trivial (pl_pl _) (pl_pl _) | exact fun _ _ => trivial)) (by rfl) (by exact sc_t2 trivial trivial))

theorem implSign_fn (p : Nat → Nat) (hb : ∀ i, p i < 256) (n : Int) : FnP Try.prog 20 [pl p, .i .i64 n] (signR p n) := by
  refine FnS.into T tok Try.func20 (by rfl) rfl rfl rfl (by simp) ?_
  refine WP.rs T false tok (by rfl) (by first | trivial | (simp only [Int.toNat_natCast, addrAt0, List.nil_append, List.cons_append, List.append_nil, AllP, plE, InR, Root.holds, Root.readL] <;> and_intros <;> first | omega | assumption | (show _ ≤ _; omega) | (show _ < _; omega) | (show _ ≠ _; omega) | exact rfl | trivial | exact pl_ds _ _ _ | exact pl_st3 trivial (pl_pl _) (pl_pl _) | exact fun _ _ => trivial)) ?_
  refine WP.seq ?_
  cases hc : permB p n
  · have e : signR p n = t2 (.i .i64 0) (.i .i64 1) := by unfold signR; rw [hc]; rfl
    refine WP.rw ?_
    refine WPL.run T false 2 tok (by rfl) (by first | trivial | (simp only [Int.toNat_natCast, addrAt0, List.nil_append, List.cons_append, List.append_nil, AllP, plE, InR, Root.holds, Root.readL] <;> and_intros <;> first | omega | assumption | (show _ ≤ _; omega) | (show _ < _; omega) | (show _ ≠ _; omega) | exact rfl | trivial | exact pl_ds _ _ _ | exact pl_st3 trivial (pl_pl _) (pl_pl _) | exact fun _ _ => trivial)) ?_
    refine WPL.call (hc ▸ IsPermutation_fn p hb n) (by rfl) (by rfl) (by rfl) (by simp [Sc, sc_pl, sc_ds, pl_ne, ds_ne]) ?_
    refine WPL.fin T false tok (by rfl) (by first | trivial | (simp only [Int.toNat_natCast, addrAt0, List.nil_append, List.cons_append, List.append_nil, AllP, plE, InR, Root.holds, Root.readL] <;> and_intros <;> first | omega | assumption | (show _ ≤ _; omega) | (show _ < _; omega) | (show _ ≠ _; omega) | exact rfl | trivial | exact pl_ds _ _ _ | exact pl_st3 trivial (pl_pl _) (pl_pl _) | exact fun _ _ => trivial)) ?_
    refine WP.cond (by rfl) (fun h => ?_) (fun h => WP.skip ?_)
    · refine WP.rs T false tok (by rfl) (by first | trivial | (simp only [Int.toNat_natCast, addrAt0, List.nil_append, List.cons_append, List.append_nil, AllP, plE, InR, Root.holds, Root.readL] <;> and_intros <;> first | omega | assumption | (show _ ≤ _; omega) | (show _ < _; omega) | (show _ ≠ _; omega) | exact rfl | trivial | exact pl_ds _ _ _ | exact pl_st3 trivial (pl_pl _) (pl_pl _) | exact fun _ _ => trivial)) ?_
      rw [e]
      exact WP.ret (Ends.val (by rfl) (by first | trivial | (simp only [Int.toNat_natCast, addrAt0, List.nil_append, List.cons_append, List.append_nil, AllP, plE, InR, Root.holds, Root.readL] <;> and_intros <;> first | omega | assumption | (show _ ≤ _; omega) | (show _ < _; omega) | (show _ ≠ _; omega) | exact rfl | trivial | exact pl_ds _ _ _ | exact pl_st3 trivial (pl_pl _) (pl_pl _) | exact fun _ _ => trivial)) (by rfl) (by exact sc_t2 trivial trivial))
    · cases h
  · obtain ⟨N, rfl, h1, h2, hP⟩ := perm_of_B hc
    have e : signR p N = t2 (.i .i64 (signV p N)) (.i .i64 0) := by unfold signR; rw [hc]; rfl
    refine WP.rw ?_
    refine WPL.run T false 2 tok (by rfl) (by first | trivial | (simp only [Int.toNat_natCast, addrAt0, List.nil_append, List.cons_append, List.append_nil, AllP, plE, InR, Root.holds, Root.readL] <;> and_intros <;> first | omega | assumption | (show _ ≤ _; omega) | (show _ < _; omega) | (show _ ≠ _; omega) | exact rfl | trivial | exact pl_ds _ _ _ | exact pl_st3 trivial (pl_pl _) (pl_pl _) | exact fun _ _ => trivial)) ?_
    refine WPL.call (hc ▸ IsPermutation_fn p hb N) (by rfl) (by rfl) (by rfl) (by simp [Sc, sc_pl, sc_ds, pl_ne, ds_ne]) ?_
    refine WPL.fin T false tok (by rfl) (by first | trivial | (simp only [Int.toNat_natCast, addrAt0, List.nil_append, List.cons_append, List.append_nil, AllP, plE, InR, Root.holds, Root.readL] <;> and_intros <;> first | omega | assumption | (show _ ≤ _; omega) | (show _ < _; omega) | (show _ ≠ _; omega) | exact rfl | trivial | exact pl_ds _ _ _ | exact pl_st3 trivial (pl_pl _) (pl_pl _) | exact fun _ _ => trivial)) ?_
    refine WP.cond (by rfl) (fun h => ?_) (fun h => WP.skip ?_)
    · cases h
    refine WP.rw ?_
    refine WPL.run T false 2 tok (by rfl) (by first | trivial | (simp only [Int.toNat_natCast, addrAt0, List.nil_append, List.cons_append, List.append_nil, AllP, plE, InR, Root.holds, Root.readL] <;> and_intros <;> first | omega | assumption | (show _ ≤ _; omega) | (show _ < _; omega) | (show _ ≠ _; omega) | exact rfl | trivial | exact pl_ds _ _ _ | exact pl_st3 trivial (pl_pl _) (pl_pl _) | exact fun _ _ => trivial)) ?_
    refine WPL.call (sign_fn p N h2 hP.lt) (by rfl) (by rfl) (by rfl) (by simp [Sc, sc_pl, sc_ds, pl_ne, ds_ne]) ?_
    refine WPL.fin T false tok (by rfl) (by first | trivial | (simp only [Int.toNat_natCast, addrAt0, List.nil_append, List.cons_append, List.append_nil, AllP, plE, InR, Root.holds, Root.readL] <;> and_intros <;> first | omega | assumption | (show _ ≤ _; omega) | (show _ < _; omega) | (show _ ≠ _; omega) | exact rfl | trivial | exact pl_ds _ _ _ | exact pl_st3 trivial (pl_pl _) (pl_pl _) | exact fun _ _ => trivial)) ?_
    rw [e]
    exact WP.ret (Ends.val (by rfl) (by first | trivial | (simp only [Int.toNat_natCast, addrAt0, List.nil_append, List.cons_append, List.append_nil, AllP, plE, InR, Root.holds, Root.readL] <;> and_intros <;> first | omega | assumption | (show _ ≤ _; omega) | (show _ < _; omega) | (show _ ≠ _; omega) | exact rfl | trivial | exact pl_ds _ _ _ | exact pl_st3 trivial (pl_pl _) (pl_pl _) | exact fun _ _ => trivial)) (by rfl) (by exact sc_t2 trivial trivial))

theorem law_SignOf (p : Nat → Nat) (hb : ∀ i, p i < 256) (n : Int) : FnP Try.prog 3 [pl p, .i .i64 n] (.b true) := by
  have hp' : ∀ i, (fun i => if i < 16 then p i else 0) i < 256 := fun i => by dsimp only; split; exact hb i; omega
  obtain ⟨r, c, e⟩ := signR_form (fun i => if i < 16 then p i else 0) n
  have h1 := specSign_fn _ hp' n
  have h2 := implSign_fn _ hp' n
  rw [e] at h1 h2
  refine FnS.into T tok Try.func3 (by rfl) rfl rfl rfl (by simp) ?_
  refine WP.rs T false tok (by rfl) (by first | trivial | (simp only [Int.toNat_natCast, addrAt0, List.nil_append, List.cons_append, List.append_nil, AllP, plE, InR, Root.holds, Root.readL] <;> and_intros <;> first | omega | assumption | (show _ ≤ _; omega) | (show _ < _; omega) | (show _ ≠ _; omega) | exact rfl | trivial | exact pl_ds _ _ _ | exact pl_st3 trivial (pl_pl _) (pl_pl _) | exact fun _ _ => trivial)) ?_
  refine WP.rw ?_
  refine WPL.run T false 1 tok (by rfl) (by first | trivial | (simp only [Int.toNat_natCast, addrAt0, List.nil_append, List.cons_append, List.append_nil, AllP, plE, InR, Root.holds, Root.readL] <;> and_intros <;> first | omega | assumption | (show _ ≤ _; omega) | (show _ < _; omega) | (show _ ≠ _; omega) | exact rfl | trivial | exact pl_ds _ _ _ | exact pl_st3 trivial (pl_pl _) (pl_pl _) | exact fun _ _ => trivial)) ?_
  refine WPL.call (toPlaces_fn p) (by rfl) (by rfl) (by rfl) (by simp [Sc, sc_pl, sc_ds, pl_ne, ds_ne]) ?_
  refine WPL.run T false 1 tok (by rfl) (by first | trivial | (simp only [Int.toNat_natCast, addrAt0, List.nil_append, List.cons_append, List.append_nil, AllP, plE, InR, Root.holds, Root.readL] <;> and_intros <;> first | omega | assumption | (show _ ≤ _; omega) | (show _ < _; omega) | (show _ ≠ _; omega) | exact rfl | trivial | exact pl_ds _ _ _ | exact pl_st3 trivial (pl_pl _) (pl_pl _) | exact fun _ _ => trivial)) ?_
  refine WPL.call (h1) (by rfl) (by rfl) (by rfl) (by simp [Sc, sc_pl, sc_ds, pl_ne, ds_ne]) ?_
  refine WPL.fin T false tok (by rfl) (by first | trivial | (simp only [Int.toNat_natCast, addrAt0, List.nil_append, List.cons_append, List.append_nil, AllP, plE, InR, Root.holds, Root.readL] <;> and_intros <;> first | omega | assumption | (show _ ≤ _; omega) | (show _ < _; omega) | (show _ ≠ _; omega) | exact rfl | trivial | exact pl_ds _ _ _ | exact pl_st3 trivial (pl_pl _) (pl_pl _) | exact fun _ _ => trivial)) ?_
  refine WP.rw ?_
  refine WPL.run T false 1 tok (by rfl) (by first | trivial | (simp only [Int.toNat_natCast, addrAt0, List.nil_append, List.cons_append, List.append_nil, AllP, plE, InR, Root.holds, Root.readL] <;> and_intros <;> first | omega | assumption | (show _ ≤ _; omega) | (show _ < _; omega) | (show _ ≠ _; omega) | exact rfl | trivial | exact pl_ds _ _ _ | exact pl_st3 trivial (pl_pl _) (pl_pl _) | exact fun _ _ => trivial)) ?_
  refine WPL.call (toPlaces_fn p) (by rfl) (by rfl) (by rfl) (by simp [Sc, sc_pl, sc_ds, pl_ne, ds_ne]) ?_
  refine WPL.run T false 1 tok (by rfl) (by first | trivial | (simp only [Int.toNat_natCast, addrAt0, List.nil_append, List.cons_append, List.append_nil, AllP, plE, InR, Root.holds, Root.readL] <;> and_intros <;> first | omega | assumption | (show _ ≤ _; omega) | (show _ < _; omega) | (show _ ≠ _; omega) | exact rfl | trivial | exact pl_ds _ _ _ | exact pl_st3 trivial (pl_pl _) (pl_pl _) | exact fun _ _ => trivial)) ?_
  refine WPL.call (h2) (by rfl) (by rfl) (by rfl) (by simp [Sc, sc_pl, sc_ds, pl_ne, ds_ne]) ?_
  refine WPL.fin T false tok (by rfl) (by first | trivial | (simp only [Int.toNat_natCast, addrAt0, List.nil_append, List.cons_append, List.append_nil, AllP, plE, InR, Root.holds, Root.readL] <;> and_intros <;> first | omega | assumption | (show _ ≤ _; omega) | (show _ < _; omega) | (show _ ≠ _; omega) | exact rfl | trivial | exact pl_ds _ _ _ | exact pl_st3 trivial (pl_pl _) (pl_pl _) | exact fun _ _ => trivial)) ?_
  refine WP.seq ?_
  refine WP.rw ?_
  refine WPL.run T false 3 tok (by rfl) (by first | trivial | (simp only [Int.toNat_natCast, addrAt0, List.nil_append, List.cons_append, List.append_nil, AllP, plE, InR, Root.holds, Root.readL] <;> and_intros <;> first | omega | assumption | (show _ ≤ _; omega) | (show _ < _; omega) | (show _ ≠ _; omega) | exact rfl | trivial | exact pl_ds _ _ _ | exact pl_st3 trivial (pl_pl _) (pl_pl _) | exact fun _ _ => trivial)) ?_
  rw [decide_eq_true (rfl : r = r)]
  refine WPL.fin T false tok (by rfl) (by first | trivial | (simp only [Int.toNat_natCast, addrAt0, List.nil_append, List.cons_append, List.append_nil, AllP, plE, InR, Root.holds, Root.readL] <;> and_intros <;> first | omega | assumption | (show _ ≤ _; omega) | (show _ < _; omega) | (show _ ≠ _; omega) | exact rfl | trivial | exact pl_ds _ _ _ | exact pl_st3 trivial (pl_pl _) (pl_pl _) | exact fun _ _ => trivial)) ?_
  refine WP.cond (by rfl) (fun h => ?_) (fun h => WP.skip ?_)
  · simp at h
  · refine WP.rs T false tok (by rfl) (by first | trivial | (simp only [Int.toNat_natCast, addrAt0, List.nil_append, List.cons_append, List.append_nil, AllP, plE, InR, Root.holds, Root.readL] <;> and_intros <;> first | omega | assumption | (show _ ≤ _; omega) | (show _ < _; omega) | (show _ ≠ _; omega) | exact rfl | trivial | exact pl_ds _ _ _ | exact pl_st3 trivial (pl_pl _) (pl_pl _) | exact fun _ _ => trivial)) ?_
    exact WP.ret (Ends.val (by rfl) (by first | trivial | (simp only [Int.toNat_natCast, addrAt0, List.nil_append, List.cons_append, List.append_nil, AllP, plE, InR, Root.holds, Root.readL] <;> and_intros <;> first | omega | assumption | (show _ ≤ _; omega) | (show _ < _; omega) | (show _ ≠ _; omega) | exact rfl | trivial | exact pl_ds _ _ _ | exact pl_st3 trivial (pl_pl _) (pl_pl _) | exact fun _ _ => trivial)) (by rfl) (by trivial))

end Go.Proofs.Ytgdcdapkmiekeaa
