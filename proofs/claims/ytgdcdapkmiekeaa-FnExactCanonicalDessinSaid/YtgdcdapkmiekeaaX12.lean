/- Even dessins; the Face permutation: both sides; the laws. -/
import Derived.Test.YtgdcdapkmiekeaaX11
import Derived.Test.YtgdcdapkmiekeaaX9
import Derived.Test.YtgdcdapkmiekeaaX4
namespace Go.Proofs.Ytgdcdapkmiekeaa
open Go.RowKit DM
set_option linter.unusedSimpArgs false
set_option linter.unusedVariables false
set_option maxRecDepth 100000
set_option maxHeartbeats 1000000

/-- A result behind the question whether it is a dessin. -/
noncomputable def desR (n : Int) (b w : Nat → Nat) (yes no : Dat) : Dat := bif desB n b w then yes else no

noncomputable def evenR (n : Int) (b w : Nat → Nat) : Dat := desR n b w (t2 (.b (decide (signV b n.toNat = 1) && decide (signV w n.toNat = 1))) (.i .i64 0)) (t2 (.b false) (.i .i64 1))
theorem evenR_form (n : Int) (b w : Nat → Nat) : ∃ r c, evenR n b w = t2 (.b r) (.i .i64 c) := by
  unfold evenR desR
  cases desB n b w with
  | true => exact ⟨_, _, rfl⟩
  | false => exact ⟨_, _, rfl⟩

theorem implEven_fn (n : Int) (b w : Nat → Nat) (hb : ∀ i, b i < 256) (hw : ∀ i, w i < 256) : FnP Try.prog 40 [ds_ n b w] (evenR n b w) := by
  refine FnS.into T tok Try.func40 (by rfl) rfl rfl rfl (by simp) ?_
  refine WP.rs T false tok (by rfl) (by first | trivial | (simp only [Int.toNat_natCast, addrAt0, List.nil_append, List.cons_append, List.append_nil, AllP, plE, InR, Root.holds, Root.readL] <;> and_intros <;> first | omega | assumption | (show _ ≤ _; omega) | (show _ < _; omega) | (show _ ≠ _; omega) | exact rfl | trivial | exact pl_ds _ _ _ | exact pl_st3 trivial (pl_pl _) (pl_pl _) | exact fun _ _ => trivial)) ?_
  refine WP.seq ?_
  cases hc : desB n b w
  · have e : evenR n b w = t2 (.b false) (.i .i64 1) := by unfold evenR desR; rw [hc]; rfl
    refine WP.rw ?_
    refine WPL.run T false 1 tok (by rfl) (by first | trivial | (simp only [Int.toNat_natCast, addrAt0, List.nil_append, List.cons_append, List.append_nil, AllP, plE, InR, Root.holds, Root.readL] <;> and_intros <;> first | omega | assumption | (show _ ≤ _; omega) | (show _ < _; omega) | (show _ ≠ _; omega) | exact rfl | trivial | exact pl_ds _ _ _ | exact pl_st3 trivial (pl_pl _) (pl_pl _) | exact fun _ _ => trivial)) ?_
    refine WPL.call (hc ▸ implIsDessin_fn n b w hb hw) (by rfl) (by rfl) (by rfl) (by simp [Sc, sc_pl, sc_ds, pl_ne, ds_ne]) ?_
    refine WPL.fin T false tok (by rfl) (by first | trivial | (simp only [Int.toNat_natCast, addrAt0, List.nil_append, List.cons_append, List.append_nil, AllP, plE, InR, Root.holds, Root.readL] <;> and_intros <;> first | omega | assumption | (show _ ≤ _; omega) | (show _ < _; omega) | (show _ ≠ _; omega) | exact rfl | trivial | exact pl_ds _ _ _ | exact pl_st3 trivial (pl_pl _) (pl_pl _) | exact fun _ _ => trivial)) ?_
    refine WP.cond (by rfl) (fun h => ?_) (fun h => WP.skip ?_)
    · refine WP.rs T false tok (by rfl) (by first | trivial | (simp only [Int.toNat_natCast, addrAt0, List.nil_append, List.cons_append, List.append_nil, AllP, plE, InR, Root.holds, Root.readL] <;> and_intros <;> first | omega | assumption | (show _ ≤ _; omega) | (show _ < _; omega) | (show _ ≠ _; omega) | exact rfl | trivial | exact pl_ds _ _ _ | exact pl_st3 trivial (pl_pl _) (pl_pl _) | exact fun _ _ => trivial)) ?_
      rw [e]
      exact WP.ret (Ends.val (by rfl) (by first | trivial | (simp only [Int.toNat_natCast, addrAt0, List.nil_append, List.cons_append, List.append_nil, AllP, plE, InR, Root.holds, Root.readL] <;> and_intros <;> first | omega | assumption | (show _ ≤ _; omega) | (show _ < _; omega) | (show _ ≠ _; omega) | exact rfl | trivial | exact pl_ds _ _ _ | exact pl_st3 trivial (pl_pl _) (pl_pl _) | exact fun _ _ => trivial)) (by rfl) (by exact sc_t2 trivial trivial))
    · cases h
  · obtain ⟨N, rfl, hD⟩ := des_of_B hc
    have e : evenR N b w = t2 (.b (decide (signV b N = 1) && decide (signV w N = 1))) (.i .i64 0) := by unfold evenR desR; rw [hc]; rfl
    refine WP.rw ?_
    refine WPL.run T false 1 tok (by rfl) (by first | trivial | (simp only [Int.toNat_natCast, addrAt0, List.nil_append, List.cons_append, List.append_nil, AllP, plE, InR, Root.holds, Root.readL] <;> and_intros <;> first | omega | assumption | (show _ ≤ _; omega) | (show _ < _; omega) | (show _ ≠ _; omega) | exact rfl | trivial | exact pl_ds _ _ _ | exact pl_st3 trivial (pl_pl _) (pl_pl _) | exact fun _ _ => trivial)) ?_
    refine WPL.call (hc ▸ implIsDessin_fn N b w hb hw) (by rfl) (by rfl) (by rfl) (by simp [Sc, sc_pl, sc_ds, pl_ne, ds_ne]) ?_
    refine WPL.fin T false tok (by rfl) (by first | trivial | (simp only [Int.toNat_natCast, addrAt0, List.nil_append, List.cons_append, List.append_nil, AllP, plE, InR, Root.holds, Root.readL] <;> and_intros <;> first | omega | assumption | (show _ ≤ _; omega) | (show _ < _; omega) | (show _ ≠ _; omega) | exact rfl | trivial | exact pl_ds _ _ _ | exact pl_st3 trivial (pl_pl _) (pl_pl _) | exact fun _ _ => trivial)) ?_
    refine WP.cond (by rfl) (fun h => ?_) (fun h => WP.skip ?_)
    · cases h
    refine WP.rw ?_
    refine WPL.run T false 4 tok (by rfl) (by first | trivial | (simp only [Int.toNat_natCast, addrAt0, List.nil_append, List.cons_append, List.append_nil, AllP, plE, InR, Root.holds, Root.readL] <;> and_intros <;> first | omega | assumption | (show _ ≤ _; omega) | (show _ < _; omega) | (show _ ≠ _; omega) | exact rfl | trivial | exact pl_ds _ _ _ | exact pl_st3 trivial (pl_pl _) (pl_pl _) | exact fun _ _ => trivial)) ?_
    refine WPL.call (sign_fn b N hD.le hD.pb.lt) (by rfl) (by rfl) (by rfl) (by simp [Sc, sc_pl, sc_ds, pl_ne, ds_ne]) ?_
    refine WPL.run T false 1 tok (by rfl) (by first | trivial | (simp only [Int.toNat_natCast, addrAt0, List.nil_append, List.cons_append, List.append_nil, AllP, plE, InR, Root.holds, Root.readL] <;> and_intros <;> first | omega | assumption | (show _ ≤ _; omega) | (show _ < _; omega) | (show _ ≠ _; omega) | exact rfl | trivial | exact pl_ds _ _ _ | exact pl_st3 trivial (pl_pl _) (pl_pl _) | exact fun _ _ => trivial)) ?_
    cases hs : decide (signV b N = 1)
    · refine WPL.fin T false tok (by rfl) (by first | trivial | (simp only [Int.toNat_natCast, addrAt0, List.nil_append, List.cons_append, List.append_nil, AllP, plE, InR, Root.holds, Root.readL] <;> and_intros <;> first | omega | assumption | (show _ ≤ _; omega) | (show _ < _; omega) | (show _ ≠ _; omega) | exact rfl | trivial | exact pl_ds _ _ _ | exact pl_st3 trivial (pl_pl _) (pl_pl _) | exact fun _ _ => trivial)) ?_
      rw [e, hs]
      exact WP.ret (Ends.val (by rfl) (by first | trivial | (simp only [Int.toNat_natCast, addrAt0, List.nil_append, List.cons_append, List.append_nil, AllP, plE, InR, Root.holds, Root.readL] <;> and_intros <;> first | omega | assumption | (show _ ≤ _; omega) | (show _ < _; omega) | (show _ ≠ _; omega) | exact rfl | trivial | exact pl_ds _ _ _ | exact pl_st3 trivial (pl_pl _) (pl_pl _) | exact fun _ _ => trivial)) (by rfl) (by exact sc_t2 trivial trivial))
    · refine WPL.run T false 5 tok (by rfl) (by first | trivial | (simp only [Int.toNat_natCast, addrAt0, List.nil_append, List.cons_append, List.append_nil, AllP, plE, InR, Root.holds, Root.readL] <;> and_intros <;> first | omega | assumption | (show _ ≤ _; omega) | (show _ < _; omega) | (show _ ≠ _; omega) | exact rfl | trivial | exact pl_ds _ _ _ | exact pl_st3 trivial (pl_pl _) (pl_pl _) | exact fun _ _ => trivial)) ?_
      refine WPL.call (sign_fn w N hD.le hD.pw.lt) (by rfl) (by rfl) (by rfl) (by simp [Sc, sc_pl, sc_ds, pl_ne, ds_ne]) ?_
      refine WPL.fin T false tok (by rfl) (by first | trivial | (simp only [Int.toNat_natCast, addrAt0, List.nil_append, List.cons_append, List.append_nil, AllP, plE, InR, Root.holds, Root.readL] <;> and_intros <;> first | omega | assumption | (show _ ≤ _; omega) | (show _ < _; omega) | (show _ ≠ _; omega) | exact rfl | trivial | exact pl_ds _ _ _ | exact pl_st3 trivial (pl_pl _) (pl_pl _) | exact fun _ _ => trivial)) ?_
      rw [e, hs]
      exact WP.ret (Ends.val (by rfl) (by first | trivial | (simp only [Int.toNat_natCast, addrAt0, List.nil_append, List.cons_append, List.append_nil, AllP, plE, InR, Root.holds, Root.readL] <;> and_intros <;> first | omega | assumption | (show _ ≤ _; omega) | (show _ < _; omega) | (show _ ≠ _; omega) | exact rfl | trivial | exact pl_ds _ _ _ | exact pl_st3 trivial (pl_pl _) (pl_pl _) | exact fun _ _ => trivial)) (by rfl) (by exact sc_t2 trivial trivial))

theorem specEven_fn (n : Int) (b w : Nat → Nat) (hb : ∀ i, b i < 256) (hw : ∀ i, w i < 256) : FnP Try.prog 39 [ds_ n b w] (evenR n b w) := by
  refine FnS.into T tok Try.func39 (by rfl) rfl rfl rfl (by simp) ?_
  refine WP.rs T false tok (by rfl) (by first | trivial | (simp only [Int.toNat_natCast, addrAt0, List.nil_append, List.cons_append, List.append_nil, AllP, plE, InR, Root.holds, Root.readL] <;> and_intros <;> first | omega | assumption | (show _ ≤ _; omega) | (show _ < _; omega) | (show _ ≠ _; omega) | exact rfl | trivial | exact pl_ds _ _ _ | exact pl_st3 trivial (pl_pl _) (pl_pl _) | exact fun _ _ => trivial)) ?_
  refine WP.seq ?_
  cases hc : desB n b w
  · have e : evenR n b w = t2 (.b false) (.i .i64 1) := by unfold evenR desR; rw [hc]; rfl
    refine WP.rw ?_
    refine WPL.run T false 1 tok (by rfl) (by first | trivial | (simp only [Int.toNat_natCast, addrAt0, List.nil_append, List.cons_append, List.append_nil, AllP, plE, InR, Root.holds, Root.readL] <;> and_intros <;> first | omega | assumption | (show _ ≤ _; omega) | (show _ < _; omega) | (show _ ≠ _; omega) | exact rfl | trivial | exact pl_ds _ _ _ | exact pl_st3 trivial (pl_pl _) (pl_pl _) | exact fun _ _ => trivial)) ?_
    refine WPL.call (hc ▸ l01Is_fn n b w hb hw) (by rfl) (by rfl) (by rfl) (by simp [Sc, sc_pl, sc_ds, pl_ne, ds_ne]) ?_
    refine WPL.fin T false tok (by rfl) (by first | trivial | (simp only [Int.toNat_natCast, addrAt0, List.nil_append, List.cons_append, List.append_nil, AllP, plE, InR, Root.holds, Root.readL] <;> and_intros <;> first | omega | assumption | (show _ ≤ _; omega) | (show _ < _; omega) | (show _ ≠ _; omega) | exact rfl | trivial | exact pl_ds _ _ _ | exact pl_st3 trivial (pl_pl _) (pl_pl _) | exact fun _ _ => trivial)) ?_
    refine WP.cond (by rfl) (fun h => ?_) (fun h => WP.skip ?_)
    · refine WP.rs T false tok (by rfl) (by first | trivial | (simp only [Int.toNat_natCast, addrAt0, List.nil_append, List.cons_append, List.append_nil, AllP, plE, InR, Root.holds, Root.readL] <;> and_intros <;> first | omega | assumption | (show _ ≤ _; omega) | (show _ < _; omega) | (show _ ≠ _; omega) | exact rfl | trivial | exact pl_ds _ _ _ | exact pl_st3 trivial (pl_pl _) (pl_pl _) | exact fun _ _ => trivial)) ?_
      rw [e]
      exact WP.ret (Ends.val (by rfl) (by first | trivial | (simp only [Int.toNat_natCast, addrAt0, List.nil_append, List.cons_append, List.append_nil, AllP, plE, InR, Root.holds, Root.readL] <;> and_intros <;> first | omega | assumption | (show _ ≤ _; omega) | (show _ < _; omega) | (show _ ≠ _; omega) | exact rfl | trivial | exact pl_ds _ _ _ | exact pl_st3 trivial (pl_pl _) (pl_pl _) | exact fun _ _ => trivial)) (by rfl) (by exact sc_t2 trivial trivial))
    · cases h
  · obtain ⟨N, rfl, hD⟩ := des_of_B hc
    have e : evenR N b w = t2 (.b (decide (signV b N = 1) && decide (signV w N = 1))) (.i .i64 0) := by unfold evenR desR; rw [hc]; rfl
    have hpb : permB b N = true := by unfold desB at hc; simp only [Bool.and_eq_true] at hc; exact hc.1
    have hpw : permB w N = true := by unfold desB at hc; simp only [Bool.and_eq_true] at hc; exact hc.2.1
    have e1 : signR b N = t2 (.i .i64 (signV b N)) (.i .i64 0) := by unfold signR; rw [hpb]; rfl
    have e2 : signR w N = t2 (.i .i64 (signV w N)) (.i .i64 0) := by unfold signR; rw [hpw]; rfl
    have h1 := specSign_fn b hb N
    have h2 := specSign_fn w hw N
    rw [e1] at h1
    rw [e2] at h2
    refine WP.rw ?_
    refine WPL.run T false 1 tok (by rfl) (by first | trivial | (simp only [Int.toNat_natCast, addrAt0, List.nil_append, List.cons_append, List.append_nil, AllP, plE, InR, Root.holds, Root.readL] <;> and_intros <;> first | omega | assumption | (show _ ≤ _; omega) | (show _ < _; omega) | (show _ ≠ _; omega) | exact rfl | trivial | exact pl_ds _ _ _ | exact pl_st3 trivial (pl_pl _) (pl_pl _) | exact fun _ _ => trivial)) ?_
    refine WPL.call (hc ▸ l01Is_fn N b w hb hw) (by rfl) (by rfl) (by rfl) (by simp [Sc, sc_pl, sc_ds, pl_ne, ds_ne]) ?_
    refine WPL.fin T false tok (by rfl) (by first | trivial | (simp only [Int.toNat_natCast, addrAt0, List.nil_append, List.cons_append, List.append_nil, AllP, plE, InR, Root.holds, Root.readL] <;> and_intros <;> first | omega | assumption | (show _ ≤ _; omega) | (show _ < _; omega) | (show _ ≠ _; omega) | exact rfl | trivial | exact pl_ds _ _ _ | exact pl_st3 trivial (pl_pl _) (pl_pl _) | exact fun _ _ => trivial)) ?_
    refine WP.cond (by rfl) (fun h => ?_) (fun h => WP.skip ?_)
    · cases h
    refine WP.rw ?_
    refine WPL.run T false 4 tok (by rfl) (by first | trivial | (simp only [Int.toNat_natCast, addrAt0, List.nil_append, List.cons_append, List.append_nil, AllP, plE, InR, Root.holds, Root.readL] <;> and_intros <;> first | omega | assumption | (show _ ≤ _; omega) | (show _ < _; omega) | (show _ ≠ _; omega) | exact rfl | trivial | exact pl_ds _ _ _ | exact pl_st3 trivial (pl_pl _) (pl_pl _) | exact fun _ _ => trivial)) ?_
    refine WPL.call (h1) (by rfl) (by rfl) (by rfl) (by simp [Sc, sc_pl, sc_ds, pl_ne, ds_ne]) ?_
    refine WPL.fin T false tok (by rfl) (by first | trivial | (simp only [Int.toNat_natCast, addrAt0, List.nil_append, List.cons_append, List.append_nil, AllP, plE, InR, Root.holds, Root.readL] <;> and_intros <;> first | omega | assumption | (show _ ≤ _; omega) | (show _ < _; omega) | (show _ ≠ _; omega) | exact rfl | trivial | exact pl_ds _ _ _ | exact pl_st3 trivial (pl_pl _) (pl_pl _) | exact fun _ _ => trivial)) ?_
    refine WP.rw ?_
    refine WPL.run T false 4 tok (by rfl) (by first | trivial | (simp only [Int.toNat_natCast, addrAt0, List.nil_append, List.cons_append, List.append_nil, AllP, plE, InR, Root.holds, Root.readL] <;> and_intros <;> first | omega | assumption | (show _ ≤ _; omega) | (show _ < _; omega) | (show _ ≠ _; omega) | exact rfl | trivial | exact pl_ds _ _ _ | exact pl_st3 trivial (pl_pl _) (pl_pl _) | exact fun _ _ => trivial)) ?_
    refine WPL.call (h2) (by rfl) (by rfl) (by rfl) (by simp [Sc, sc_pl, sc_ds, pl_ne, ds_ne]) ?_
    refine WPL.fin T false tok (by rfl) (by first | trivial | (simp only [Int.toNat_natCast, addrAt0, List.nil_append, List.cons_append, List.append_nil, AllP, plE, InR, Root.holds, Root.readL] <;> and_intros <;> first | omega | assumption | (show _ ≤ _; omega) | (show _ < _; omega) | (show _ ≠ _; omega) | exact rfl | trivial | exact pl_ds _ _ _ | exact pl_st3 trivial (pl_pl _) (pl_pl _) | exact fun _ _ => trivial)) ?_
    refine WP.rw ?_
    refine WPL.run T false 2 tok (by rfl) (by first | trivial | (simp only [Int.toNat_natCast, addrAt0, List.nil_append, List.cons_append, List.append_nil, AllP, plE, InR, Root.holds, Root.readL] <;> and_intros <;> first | omega | assumption | (show _ ≤ _; omega) | (show _ < _; omega) | (show _ ≠ _; omega) | exact rfl | trivial | exact pl_ds _ _ _ | exact pl_st3 trivial (pl_pl _) (pl_pl _) | exact fun _ _ => trivial)) ?_
    cases hs : decide (signV b N = 1)
    · refine WPL.fin T false tok (by rfl) (by first | trivial | (simp only [Int.toNat_natCast, addrAt0, List.nil_append, List.cons_append, List.append_nil, AllP, plE, InR, Root.holds, Root.readL] <;> and_intros <;> first | omega | assumption | (show _ ≤ _; omega) | (show _ < _; omega) | (show _ ≠ _; omega) | exact rfl | trivial | exact pl_ds _ _ _ | exact pl_st3 trivial (pl_pl _) (pl_pl _) | exact fun _ _ => trivial)) ?_
      rw [e, hs]
      exact WP.ret (Ends.val (by rfl) (by first | trivial | (simp only [Int.toNat_natCast, addrAt0, List.nil_append, List.cons_append, List.append_nil, AllP, plE, InR, Root.holds, Root.readL] <;> and_intros <;> first | omega | assumption | (show _ ≤ _; omega) | (show _ < _; omega) | (show _ ≠ _; omega) | exact rfl | trivial | exact pl_ds _ _ _ | exact pl_st3 trivial (pl_pl _) (pl_pl _) | exact fun _ _ => trivial)) (by rfl) (by exact sc_t2 trivial trivial))
    · refine WPL.fin T false tok (by rfl) (by first | trivial | (simp only [Int.toNat_natCast, addrAt0, List.nil_append, List.cons_append, List.append_nil, AllP, plE, InR, Root.holds, Root.readL] <;> and_intros <;> first | omega | assumption | (show _ ≤ _; omega) | (show _ < _; omega) | (show _ ≠ _; omega) | exact rfl | trivial | exact pl_ds _ _ _ | exact pl_st3 trivial (pl_pl _) (pl_pl _) | exact fun _ _ => trivial)) ?_
      rw [e, hs]
      exact WP.ret (Ends.val (by rfl) (by first | trivial | (simp only [Int.toNat_natCast, addrAt0, List.nil_append, List.cons_append, List.append_nil, AllP, plE, InR, Root.holds, Root.readL] <;> and_intros <;> first | omega | assumption | (show _ ≤ _; omega) | (show _ < _; omega) | (show _ ≠ _; omega) | exact rfl | trivial | exact pl_ds _ _ _ | exact pl_st3 trivial (pl_pl _) (pl_pl _) | exact fun _ _ => trivial)) (by rfl) (by exact sc_t2 trivial trivial))

theorem law_IsEven (n : Int) (b w : Nat → Nat) (_hn : -9223372036854775808 ≤ n ∧ n ≤ 9223372036854775807) (hb : ∀ i, b i < 256) (hw : ∀ i, w i < 256) : FnP Try.prog 9 [ds_ n b w] (.b true) := by
  obtain ⟨r, c, e⟩ := evenR_form n (lim b) (lim w)
  have h1 := specEven_fn n (lim b) (lim w) (lim_lt hb) (lim_lt hw)
  have h2 := implEven_fn n (lim b) (lim w) (lim_lt hb) (lim_lt hw)
  rw [e] at h1 h2
  refine FnS.into T tok Try.func9 (by rfl) rfl rfl rfl (by simp) ?_
  refine WP.rs T false tok (by rfl) (by first | trivial | (simp only [Int.toNat_natCast, addrAt0, List.nil_append, List.cons_append, List.append_nil, AllP, plE, InR, Root.holds, Root.readL] <;> and_intros <;> first | omega | assumption | (show _ ≤ _; omega) | (show _ < _; omega) | (show _ ≠ _; omega) | exact rfl | trivial | exact pl_ds _ _ _ | exact pl_st3 trivial (pl_pl _) (pl_pl _) | exact fun _ _ => trivial)) ?_
  refine WP.rw ?_
  refine WPL.run T false 1 tok (by rfl) (by first | trivial | (simp only [Int.toNat_natCast, addrAt0, List.nil_append, List.cons_append, List.append_nil, AllP, plE, InR, Root.holds, Root.readL] <;> and_intros <;> first | omega | assumption | (show _ ≤ _; omega) | (show _ < _; omega) | (show _ ≠ _; omega) | exact rfl | trivial | exact pl_ds _ _ _ | exact pl_st3 trivial (pl_pl _) (pl_pl _) | exact fun _ _ => trivial)) ?_
  refine WPL.call (toDessin_fn n b w) (by rfl) (by rfl) (by rfl) (by simp [Sc, sc_pl, sc_ds, pl_ne, ds_ne]) ?_
  refine WPL.call (h1) (by rfl) (by rfl) (by rfl) (by simp [Sc, sc_pl, sc_ds, pl_ne, ds_ne]) ?_
  refine WPL.fin T false tok (by rfl) (by first | trivial | (simp only [Int.toNat_natCast, addrAt0, List.nil_append, List.cons_append, List.append_nil, AllP, plE, InR, Root.holds, Root.readL] <;> and_intros <;> first | omega | assumption | (show _ ≤ _; omega) | (show _ < _; omega) | (show _ ≠ _; omega) | exact rfl | trivial | exact pl_ds _ _ _ | exact pl_st3 trivial (pl_pl _) (pl_pl _) | exact fun _ _ => trivial)) ?_
  refine WP.rw ?_
  refine WPL.run T false 1 tok (by rfl) (by first | trivial | (simp only [Int.toNat_natCast, addrAt0, List.nil_append, List.cons_append, List.append_nil, AllP, plE, InR, Root.holds, Root.readL] <;> and_intros <;> first | omega | assumption | (show _ ≤ _; omega) | (show _ < _; omega) | (show _ ≠ _; omega) | exact rfl | trivial | exact pl_ds _ _ _ | exact pl_st3 trivial (pl_pl _) (pl_pl _) | exact fun _ _ => trivial)) ?_
  refine WPL.call (toDessin_fn n b w) (by rfl) (by rfl) (by rfl) (by simp [Sc, sc_pl, sc_ds, pl_ne, ds_ne]) ?_
  refine WPL.call (h2) (by rfl) (by rfl) (by rfl) (by simp [Sc, sc_pl, sc_ds, pl_ne, ds_ne]) ?_
  refine WPL.fin T false tok (by rfl) (by first | trivial | (simp only [Int.toNat_natCast, addrAt0, List.nil_append, List.cons_append, List.append_nil, AllP, plE, InR, Root.holds, Root.readL] <;> and_intros <;> first | omega | assumption | (show _ ≤ _; omega) | (show _ < _; omega) | (show _ ≠ _; omega) | exact rfl | trivial | exact pl_ds _ _ _ | exact pl_st3 trivial (pl_pl _) (pl_pl _) | exact fun _ _ => trivial)) ?_
  refine WP.seq ?_
  refine WP.rw ?_
  refine WPL.run T false 3 tok (by rfl) (by first | trivial | (simp only [Int.toNat_natCast, addrAt0, List.nil_append, List.cons_append, List.append_nil, AllP, plE, InR, Root.holds, Root.readL] <;> and_intros <;> first | omega | assumption | (show _ ≤ _; omega) | (show _ < _; omega) | (show _ ≠ _; omega) | exact rfl | trivial | exact pl_ds _ _ _ | exact pl_st3 trivial (pl_pl _) (pl_pl _) | exact fun _ _ => trivial)) ?_
  rw [show (r == r) = true from by cases r <;> rfl]
  refine WPL.fin T false tok (by rfl) (by first | trivial | (simp only [Int.toNat_natCast, addrAt0, List.nil_append, List.cons_append, List.append_nil, AllP, plE, InR, Root.holds, Root.readL] <;> and_intros <;> first | omega | assumption | (show _ ≤ _; omega) | (show _ < _; omega) | (show _ ≠ _; omega) | exact rfl | trivial | exact pl_ds _ _ _ | exact pl_st3 trivial (pl_pl _) (pl_pl _) | exact fun _ _ => trivial)) ?_
  refine WP.cond (by rfl) (fun h => ?_) (fun h => WP.skip ?_)
  · simp at h
  · refine WP.rs T false tok (by rfl) (by first | trivial | (simp only [Int.toNat_natCast, addrAt0, List.nil_append, List.cons_append, List.append_nil, AllP, plE, InR, Root.holds, Root.readL] <;> and_intros <;> first | omega | assumption | (show _ ≤ _; omega) | (show _ < _; omega) | (show _ ≠ _; omega) | exact rfl | trivial | exact pl_ds _ _ _ | exact pl_st3 trivial (pl_pl _) (pl_pl _) | exact fun _ _ => trivial)) ?_
    exact WP.ret (Ends.val (by rfl) (by first | trivial | (simp only [Int.toNat_natCast, addrAt0, List.nil_append, List.cons_append, List.append_nil, AllP, plE, InR, Root.holds, Root.readL] <;> and_intros <;> first | omega | assumption | (show _ ≤ _; omega) | (show _ < _; omega) | (show _ ≠ _; omega) | exact rfl | trivial | exact pl_ds _ _ _ | exact pl_st3 trivial (pl_pl _) (pl_pl _) | exact fun _ _ => trivial)) (by rfl) (by trivial))

/-! ### Faces -/
theorem Perm.then {N : Nat} {p q : Nat → Nat} (hp : Perm N p) (hq : Perm N q) : ∀ i, i < N → fillF (fun i => q (p i)) N i < N := fun i hi => by
  unfold fillF; rw [if_pos hi]; exact hq.lt _ (hp.lt _ hi)

def faceF (N : Nat) (b w : Nat → Nat) : Nat → Nat := backTo (fillF (fun i => w (b i)) N) N

theorem face_fn (N : Nat) (b w : Nat → Nat) (hD : Des N b w) : FnP Try.prog 79 [ds_ N b w] (pl (faceF N b w)) := by
  refine FnS.into T tok Try.func79 (by rfl) rfl rfl rfl (by simp) ?_
  refine WP.rs T false tok (by rfl) (by first | trivial | (simp only [Int.toNat_natCast, addrAt0, List.nil_append, List.cons_append, List.append_nil, AllP, plE, InR, Root.holds, Root.readL] <;> and_intros <;> first | omega | assumption | (show _ ≤ _; omega) | (show _ < _; omega) | (show _ ≠ _; omega) | exact rfl | trivial | exact pl_ds _ _ _ | exact pl_st3 trivial (pl_pl _) (pl_pl _) | exact fun _ _ => trivial)) ?_
  refine WP.seq ?_
  refine WP.dt (T := T) 10 0 ?_
  refine HW.run false 6 tok (by rfl) (by first | trivial | (simp only [Int.toNat_natCast, addrAt0, List.nil_append, List.cons_append, List.append_nil, AllP, plE, InR, Root.holds, Root.readL] <;> and_intros <;> first | omega | assumption | (show _ ≤ _; omega) | (show _ < _; omega) | (show _ ≠ _; omega) | exact rfl | trivial | exact pl_ds _ _ _ | exact pl_st3 trivial (pl_pl _) (pl_pl _) | exact fun _ _ => trivial)) ?_
  refine HW.call [] (then_fn b w N hD.le hD.pb.lt) (by rfl) (by rfl) trivial (by repeat (first | exact trivial | (refine ArgsR.cons ?_ (by rfl) ?_) | exact (show _ = _ ∧ _ from ⟨rfl, by first | trivial | exact sc_pl _ _ | exact sc_ds _ _ _ _⟩) | exact (show _ = _ from rfl))) (by rfl) (by simp [Sc, sc_pl, sc_ds]) (sc_pl _ _) ?_
  refine HW.run false 2 tok (by rfl) (by first | trivial | (simp only [Int.toNat_natCast, addrAt0, List.nil_append, List.cons_append, List.append_nil, AllP, plE, InR, Root.holds, Root.readL] <;> and_intros <;> first | omega | assumption | (show _ ≤ _; omega) | (show _ < _; omega) | (show _ ≠ _; omega) | exact rfl | trivial | exact pl_ds _ _ _ | exact pl_st3 trivial (pl_pl _) (pl_pl _) | exact fun _ _ => trivial)) ?_
  refine HW.call [] (back_fn _ N hD.le (hD.pb.then hD.pw)) (by rfl) (by rfl) trivial (by repeat (first | exact trivial | (refine ArgsR.cons ?_ (by rfl) ?_) | exact (show _ = _ ∧ _ from ⟨rfl, by first | trivial | exact sc_pl _ _ | exact sc_ds _ _ _ _⟩) | exact (show _ = _ from rfl))) (by rfl) (by simp [Sc, sc_pl, sc_ds]) (sc_pl _ _) ?_
  refine HW.fin tok (by kernel_rfl) 10 0 (by rfl) (by kernel_rfl) (by kernel_rfl) (by kernel_rfl) (by rfl) (by rfl) rfl rfl ?_
  refine WPL.fin T false tok (by rfl) (by first | trivial | (simp only [Int.toNat_natCast, addrAt0, List.nil_append, List.cons_append, List.append_nil, AllP, plE, InR, Root.holds, Root.readL] <;> and_intros <;> first | omega | assumption | (show _ ≤ _; omega) | (show _ < _; omega) | (show _ ≠ _; omega) | exact rfl | trivial | exact pl_ds _ _ _ | exact pl_st3 trivial (pl_pl _) (pl_pl _) | exact fun _ _ => trivial)) ?_
  exact WP.ret (Ends.val (by rfl) (by first | trivial | (simp only [Int.toNat_natCast, addrAt0, List.nil_append, List.cons_append, List.append_nil, AllP, plE, InR, Root.holds, Root.readL] <;> and_intros <;> first | omega | assumption | (show _ ≤ _; omega) | (show _ < _; omega) | (show _ ≠ _; omega) | exact rfl | trivial | exact pl_ds _ _ _ | exact pl_st3 trivial (pl_pl _) (pl_pl _) | exact fun _ _ => trivial)) (by rfl) (by exact sc_pl _ _))

theorem l01Face_fn (N : Nat) (b w : Nat → Nat) (hD : Des N b w) : FnP Try.prog 78 [ds_ N b w] (pl (faceF N b w)) := by
  refine FnS.into T tok Try.func78 (by rfl) rfl rfl rfl (by simp) ?_
  refine WP.rs T false tok (by rfl) (by first | trivial | (simp only [Int.toNat_natCast, addrAt0, List.nil_append, List.cons_append, List.append_nil, AllP, plE, InR, Root.holds, Root.readL] <;> and_intros <;> first | omega | assumption | (show _ ≤ _; omega) | (show _ < _; omega) | (show _ ≠ _; omega) | exact rfl | trivial | exact pl_ds _ _ _ | exact pl_st3 trivial (pl_pl _) (pl_pl _) | exact fun _ _ => trivial)) ?_
  refine WP.seq ?_
  refine WP.dt (T := T) 10 0 ?_
  refine HW.run false 6 tok (by rfl) (by first | trivial | (simp only [Int.toNat_natCast, addrAt0, List.nil_append, List.cons_append, List.append_nil, AllP, plE, InR, Root.holds, Root.readL] <;> and_intros <;> first | omega | assumption | (show _ ≤ _; omega) | (show _ < _; omega) | (show _ ≠ _; omega) | exact rfl | trivial | exact pl_ds _ _ _ | exact pl_st3 trivial (pl_pl _) (pl_pl _) | exact fun _ _ => trivial)) ?_
  refine HW.call [] (l01Then_fn b w N hD.le hD.pb.lt) (by rfl) (by rfl) trivial (by repeat (first | exact trivial | (refine ArgsR.cons ?_ (by rfl) ?_) | exact (show _ = _ ∧ _ from ⟨rfl, by first | trivial | exact sc_pl _ _ | exact sc_ds _ _ _ _⟩) | exact (show _ = _ from rfl))) (by rfl) (by simp [Sc, sc_pl, sc_ds]) (sc_pl _ _) ?_
  refine HW.run false 2 tok (by rfl) (by first | trivial | (simp only [Int.toNat_natCast, addrAt0, List.nil_append, List.cons_append, List.append_nil, AllP, plE, InR, Root.holds, Root.readL] <;> and_intros <;> first | omega | assumption | (show _ ≤ _; omega) | (show _ < _; omega) | (show _ ≠ _; omega) | exact rfl | trivial | exact pl_ds _ _ _ | exact pl_st3 trivial (pl_pl _) (pl_pl _) | exact fun _ _ => trivial)) ?_
  refine HW.call [] (l01Back_fn _ N hD.le (hD.pb.then hD.pw)) (by rfl) (by rfl) trivial (by repeat (first | exact trivial | (refine ArgsR.cons ?_ (by rfl) ?_) | exact (show _ = _ ∧ _ from ⟨rfl, by first | trivial | exact sc_pl _ _ | exact sc_ds _ _ _ _⟩) | exact (show _ = _ from rfl))) (by rfl) (by simp [Sc, sc_pl, sc_ds]) (sc_pl _ _) ?_
  refine HW.fin tok (by kernel_rfl) 10 0 (by rfl) (by kernel_rfl) (by kernel_rfl) (by kernel_rfl) (by rfl) (by rfl) rfl rfl ?_
  refine WPL.fin T false tok (by rfl) (by first | trivial | (simp only [Int.toNat_natCast, addrAt0, List.nil_append, List.cons_append, List.append_nil, AllP, plE, InR, Root.holds, Root.readL] <;> and_intros <;> first | omega | assumption | (show _ ≤ _; omega) | (show _ < _; omega) | (show _ ≠ _; omega) | exact rfl | trivial | exact pl_ds _ _ _ | exact pl_st3 trivial (pl_pl _) (pl_pl _) | exact fun _ _ => trivial)) ?_
  exact WP.ret (Ends.val (by rfl) (by first | trivial | (simp only [Int.toNat_natCast, addrAt0, List.nil_append, List.cons_append, List.append_nil, AllP, plE, InR, Root.holds, Root.readL] <;> and_intros <;> first | omega | assumption | (show _ ≤ _; omega) | (show _ < _; omega) | (show _ ≠ _; omega) | exact rfl | trivial | exact pl_ds _ _ _ | exact pl_st3 trivial (pl_pl _) (pl_pl _) | exact fun _ _ => trivial)) (by rfl) (by exact sc_pl _ _))

noncomputable def faceR (n : Int) (b w : Nat → Nat) : Dat := desR n b w (t2 (pl (faceF n.toNat b w)) (.i .i64 0)) (t2 (pl fun _ => 0) (.i .i64 1))
theorem faceR_form (n : Int) (b w : Nat → Nat) : ∃ r c, faceR n b w = t2 (pl r) (.i .i64 c) := by
  unfold faceR desR
  cases desB n b w with
  | true => exact ⟨_, _, rfl⟩
  | false => exact ⟨_, _, rfl⟩

theorem implFace_fn (n : Int) (b w : Nat → Nat) (hb : ∀ i, b i < 256) (hw : ∀ i, w i < 256) : FnP Try.prog 34 [ds_ n b w] (faceR n b w) := by
  refine FnS.into T tok Try.func34 (by rfl) rfl rfl rfl (by simp) ?_
  refine WP.rs T false tok (by rfl) (by first | trivial | (simp only [Int.toNat_natCast, addrAt0, List.nil_append, List.cons_append, List.append_nil, AllP, plE, InR, Root.holds, Root.readL] <;> and_intros <;> first | omega | assumption | (show _ ≤ _; omega) | (show _ < _; omega) | (show _ ≠ _; omega) | exact rfl | trivial | exact pl_ds _ _ _ | exact pl_st3 trivial (pl_pl _) (pl_pl _) | exact fun _ _ => trivial)) ?_
  refine WP.seq ?_
  cases hc : desB n b w
  · have e : faceR n b w = t2 (pl fun _ => 0) (.i .i64 1) := by unfold faceR desR; rw [hc]; rfl
    refine WP.rw ?_
    refine WPL.run T false 1 tok (by rfl) (by first | trivial | (simp only [Int.toNat_natCast, addrAt0, List.nil_append, List.cons_append, List.append_nil, AllP, plE, InR, Root.holds, Root.readL] <;> and_intros <;> first | omega | assumption | (show _ ≤ _; omega) | (show _ < _; omega) | (show _ ≠ _; omega) | exact rfl | trivial | exact pl_ds _ _ _ | exact pl_st3 trivial (pl_pl _) (pl_pl _) | exact fun _ _ => trivial)) ?_
    refine WPL.call (hc ▸ implIsDessin_fn n b w hb hw) (by rfl) (by rfl) (by rfl) (by simp [Sc, sc_pl, sc_ds, pl_ne, ds_ne]) ?_
    refine WPL.fin T false tok (by rfl) (by first | trivial | (simp only [Int.toNat_natCast, addrAt0, List.nil_append, List.cons_append, List.append_nil, AllP, plE, InR, Root.holds, Root.readL] <;> and_intros <;> first | omega | assumption | (show _ ≤ _; omega) | (show _ < _; omega) | (show _ ≠ _; omega) | exact rfl | trivial | exact pl_ds _ _ _ | exact pl_st3 trivial (pl_pl _) (pl_pl _) | exact fun _ _ => trivial)) ?_
    refine WP.cond (by rfl) (fun h => ?_) (fun h => WP.skip ?_)
    · refine WP.rs T false tok (by rfl) (by first | trivial | (simp only [Int.toNat_natCast, addrAt0, List.nil_append, List.cons_append, List.append_nil, AllP, plE, InR, Root.holds, Root.readL] <;> and_intros <;> first | omega | assumption | (show _ ≤ _; omega) | (show _ < _; omega) | (show _ ≠ _; omega) | exact rfl | trivial | exact pl_ds _ _ _ | exact pl_st3 trivial (pl_pl _) (pl_pl _) | exact fun _ _ => trivial)) ?_
      rw [e]
      exact WP.ret (Ends.val (by rfl) (by first | trivial | (simp only [Int.toNat_natCast, addrAt0, List.nil_append, List.cons_append, List.append_nil, AllP, plE, InR, Root.holds, Root.readL] <;> and_intros <;> first | omega | assumption | (show _ ≤ _; omega) | (show _ < _; omega) | (show _ ≠ _; omega) | exact rfl | trivial | exact pl_ds _ _ _ | exact pl_st3 trivial (pl_pl _) (pl_pl _) | exact fun _ _ => trivial)) (by rfl) (by exact sc_t2 (sc_pl _ _) trivial))
    · cases h
  · obtain ⟨N, rfl, hD⟩ := des_of_B hc
    have e : faceR N b w = t2 (pl (faceF N b w)) (.i .i64 0) := by unfold faceR desR; rw [hc]; rfl
    refine WP.rw ?_
    refine WPL.run T false 1 tok (by rfl) (by first | trivial | (simp only [Int.toNat_natCast, addrAt0, List.nil_append, List.cons_append, List.append_nil, AllP, plE, InR, Root.holds, Root.readL] <;> and_intros <;> first | omega | assumption | (show _ ≤ _; omega) | (show _ < _; omega) | (show _ ≠ _; omega) | exact rfl | trivial | exact pl_ds _ _ _ | exact pl_st3 trivial (pl_pl _) (pl_pl _) | exact fun _ _ => trivial)) ?_
    refine WPL.call (hc ▸ implIsDessin_fn N b w hb hw) (by rfl) (by rfl) (by rfl) (by simp [Sc, sc_pl, sc_ds, pl_ne, ds_ne]) ?_
    refine WPL.fin T false tok (by rfl) (by first | trivial | (simp only [Int.toNat_natCast, addrAt0, List.nil_append, List.cons_append, List.append_nil, AllP, plE, InR, Root.holds, Root.readL] <;> and_intros <;> first | omega | assumption | (show _ ≤ _; omega) | (show _ < _; omega) | (show _ ≠ _; omega) | exact rfl | trivial | exact pl_ds _ _ _ | exact pl_st3 trivial (pl_pl _) (pl_pl _) | exact fun _ _ => trivial)) ?_
    refine WP.cond (by rfl) (fun h => ?_) (fun h => WP.skip ?_)
    · cases h
    refine WP.rw ?_
    refine WPL.run T false 1 tok (by rfl) (by first | trivial | (simp only [Int.toNat_natCast, addrAt0, List.nil_append, List.cons_append, List.append_nil, AllP, plE, InR, Root.holds, Root.readL] <;> and_intros <;> first | omega | assumption | (show _ ≤ _; omega) | (show _ < _; omega) | (show _ ≠ _; omega) | exact rfl | trivial | exact pl_ds _ _ _ | exact pl_st3 trivial (pl_pl _) (pl_pl _) | exact fun _ _ => trivial)) ?_
    refine WPL.call (face_fn N b w hD) (by rfl) (by rfl) (by rfl) (by simp [Sc, sc_pl, sc_ds, pl_ne, ds_ne]) ?_
    refine WPL.fin T false tok (by rfl) (by first | trivial | (simp only [Int.toNat_natCast, addrAt0, List.nil_append, List.cons_append, List.append_nil, AllP, plE, InR, Root.holds, Root.readL] <;> and_intros <;> first | omega | assumption | (show _ ≤ _; omega) | (show _ < _; omega) | (show _ ≠ _; omega) | exact rfl | trivial | exact pl_ds _ _ _ | exact pl_st3 trivial (pl_pl _) (pl_pl _) | exact fun _ _ => trivial)) ?_
    rw [e]
    exact WP.ret (Ends.val (by rfl) (by first | trivial | (simp only [Int.toNat_natCast, addrAt0, List.nil_append, List.cons_append, List.append_nil, AllP, plE, InR, Root.holds, Root.readL] <;> and_intros <;> first | omega | assumption | (show _ ≤ _; omega) | (show _ < _; omega) | (show _ ≠ _; omega) | exact rfl | trivial | exact pl_ds _ _ _ | exact pl_st3 trivial (pl_pl _) (pl_pl _) | exact fun _ _ => trivial)) (by rfl) (by exact sc_t2 (sc_pl _ _) trivial))

theorem specFace_fn (n : Int) (b w : Nat → Nat) (hb : ∀ i, b i < 256) (hw : ∀ i, w i < 256) : FnP Try.prog 33 [ds_ n b w] (faceR n b w) := by
  refine FnS.into T tok Try.func33 (by rfl) rfl rfl rfl (by simp) ?_
  refine WP.rs T false tok (by rfl) (by first | trivial | (simp only [Int.toNat_natCast, addrAt0, List.nil_append, List.cons_append, List.append_nil, AllP, plE, InR, Root.holds, Root.readL] <;> and_intros <;> first | omega | assumption | (show _ ≤ _; omega) | (show _ < _; omega) | (show _ ≠ _; omega) | exact rfl | trivial | exact pl_ds _ _ _ | exact pl_st3 trivial (pl_pl _) (pl_pl _) | exact fun _ _ => trivial)) ?_
  refine WP.seq ?_
  cases hc : desB n b w
  · have e : faceR n b w = t2 (pl fun _ => 0) (.i .i64 1) := by unfold faceR desR; rw [hc]; rfl
    refine WP.rw ?_
    refine WPL.run T false 1 tok (by rfl) (by first | trivial | (simp only [Int.toNat_natCast, addrAt0, List.nil_append, List.cons_append, List.append_nil, AllP, plE, InR, Root.holds, Root.readL] <;> and_intros <;> first | omega | assumption | (show _ ≤ _; omega) | (show _ < _; omega) | (show _ ≠ _; omega) | exact rfl | trivial | exact pl_ds _ _ _ | exact pl_st3 trivial (pl_pl _) (pl_pl _) | exact fun _ _ => trivial)) ?_
    refine WPL.call (hc ▸ l01Is_fn n b w hb hw) (by rfl) (by rfl) (by rfl) (by simp [Sc, sc_pl, sc_ds, pl_ne, ds_ne]) ?_
    refine WPL.fin T false tok (by rfl) (by first | trivial | (simp only [Int.toNat_natCast, addrAt0, List.nil_append, List.cons_append, List.append_nil, AllP, plE, InR, Root.holds, Root.readL] <;> and_intros <;> first | omega | assumption | (show _ ≤ _; omega) | (show _ < _; omega) | (show _ ≠ _; omega) | exact rfl | trivial | exact pl_ds _ _ _ | exact pl_st3 trivial (pl_pl _) (pl_pl _) | exact fun _ _ => trivial)) ?_
    refine WP.cond (by rfl) (fun h => ?_) (fun h => WP.skip ?_)
    · refine WP.rs T false tok (by rfl) (by first | trivial | (simp only [Int.toNat_natCast, addrAt0, List.nil_append, List.cons_append, List.append_nil, AllP, plE, InR, Root.holds, Root.readL] <;> and_intros <;> first | omega | assumption | (show _ ≤ _; omega) | (show _ < _; omega) | (show _ ≠ _; omega) | exact rfl | trivial | exact pl_ds _ _ _ | exact pl_st3 trivial (pl_pl _) (pl_pl _) | exact fun _ _ => trivial)) ?_
      rw [e]
      exact WP.ret (Ends.val (by rfl) (by first | trivial | (simp only [Int.toNat_natCast, addrAt0, List.nil_append, List.cons_append, List.append_nil, AllP, plE, InR, Root.holds, Root.readL] <;> and_intros <;> first | omega | assumption | (show _ ≤ _; omega) | (show _ < _; omega) | (show _ ≠ _; omega) | exact rfl | trivial | exact pl_ds _ _ _ | exact pl_st3 trivial (pl_pl _) (pl_pl _) | exact fun _ _ => trivial)) (by rfl) (by exact sc_t2 (sc_pl _ _) trivial))
    · cases h
  · obtain ⟨N, rfl, hD⟩ := des_of_B hc
    have e : faceR N b w = t2 (pl (faceF N b w)) (.i .i64 0) := by unfold faceR desR; rw [hc]; rfl
    refine WP.rw ?_
    refine WPL.run T false 1 tok (by rfl) (by first | trivial | (simp only [Int.toNat_natCast, addrAt0, List.nil_append, List.cons_append, List.append_nil, AllP, plE, InR, Root.holds, Root.readL] <;> and_intros <;> first | omega | assumption | (show _ ≤ _; omega) | (show _ < _; omega) | (show _ ≠ _; omega) | exact rfl | trivial | exact pl_ds _ _ _ | exact pl_st3 trivial (pl_pl _) (pl_pl _) | exact fun _ _ => trivial)) ?_
    refine WPL.call (hc ▸ l01Is_fn N b w hb hw) (by rfl) (by rfl) (by rfl) (by simp [Sc, sc_pl, sc_ds, pl_ne, ds_ne]) ?_
    refine WPL.fin T false tok (by rfl) (by first | trivial | (simp only [Int.toNat_natCast, addrAt0, List.nil_append, List.cons_append, List.append_nil, AllP, plE, InR, Root.holds, Root.readL] <;> and_intros <;> first | omega | assumption | (show _ ≤ _; omega) | (show _ < _; omega) | (show _ ≠ _; omega) | exact rfl | trivial | exact pl_ds _ _ _ | exact pl_st3 trivial (pl_pl _) (pl_pl _) | exact fun _ _ => trivial)) ?_
    refine WP.cond (by rfl) (fun h => ?_) (fun h => WP.skip ?_)
    · cases h
    refine WP.rw ?_
    refine WPL.run T false 1 tok (by rfl) (by first | trivial | (simp only [Int.toNat_natCast, addrAt0, List.nil_append, List.cons_append, List.append_nil, AllP, plE, InR, Root.holds, Root.readL] <;> and_intros <;> first | omega | assumption | (show _ ≤ _; omega) | (show _ < _; omega) | (show _ ≠ _; omega) | exact rfl | trivial | exact pl_ds _ _ _ | exact pl_st3 trivial (pl_pl _) (pl_pl _) | exact fun _ _ => trivial)) ?_
    refine WPL.call (l01Face_fn N b w hD) (by rfl) (by rfl) (by rfl) (by simp [Sc, sc_pl, sc_ds, pl_ne, ds_ne]) ?_
    refine WPL.fin T false tok (by rfl) (by first | trivial | (simp only [Int.toNat_natCast, addrAt0, List.nil_append, List.cons_append, List.append_nil, AllP, plE, InR, Root.holds, Root.readL] <;> and_intros <;> first | omega | assumption | (show _ ≤ _; omega) | (show _ < _; omega) | (show _ ≠ _; omega) | exact rfl | trivial | exact pl_ds _ _ _ | exact pl_st3 trivial (pl_pl _) (pl_pl _) | exact fun _ _ => trivial)) ?_
    rw [e]
    exact WP.ret (Ends.val (by rfl) (by first | trivial | (simp only [Int.toNat_natCast, addrAt0, List.nil_append, List.cons_append, List.append_nil, AllP, plE, InR, Root.holds, Root.readL] <;> and_intros <;> first | omega | assumption | (show _ ≤ _; omega) | (show _ < _; omega) | (show _ ≠ _; omega) | exact rfl | trivial | exact pl_ds _ _ _ | exact pl_st3 trivial (pl_pl _) (pl_pl _) | exact fun _ _ => trivial)) (by rfl) (by exact sc_t2 (sc_pl _ _) trivial))

theorem law_FaceOf (n : Int) (b w : Nat → Nat) (_hn : -9223372036854775808 ≤ n ∧ n ≤ 9223372036854775807) (hb : ∀ i, b i < 256) (hw : ∀ i, w i < 256) : FnP Try.prog 7 [ds_ n b w] (.b true) := by
  obtain ⟨r, c, e⟩ := faceR_form n (lim b) (lim w)
  have h1 := specFace_fn n (lim b) (lim w) (lim_lt hb) (lim_lt hw)
  have h2 := implFace_fn n (lim b) (lim w) (lim_lt hb) (lim_lt hw)
  rw [e] at h1 h2
  refine FnS.into T tok Try.func7 (by rfl) rfl rfl rfl (by simp) ?_
  refine WP.rs T false tok (by rfl) (by first | trivial | (simp only [Int.toNat_natCast, addrAt0, List.nil_append, List.cons_append, List.append_nil, AllP, plE, InR, Root.holds, Root.readL] <;> and_intros <;> first | omega | assumption | (show _ ≤ _; omega) | (show _ < _; omega) | (show _ ≠ _; omega) | exact rfl | trivial | exact pl_ds _ _ _ | exact pl_st3 trivial (pl_pl _) (pl_pl _) | exact fun _ _ => trivial)) ?_
  refine WP.rw ?_
  refine WPL.run T false 1 tok (by rfl) (by first | trivial | (simp only [Int.toNat_natCast, addrAt0, List.nil_append, List.cons_append, List.append_nil, AllP, plE, InR, Root.holds, Root.readL] <;> and_intros <;> first | omega | assumption | (show _ ≤ _; omega) | (show _ < _; omega) | (show _ ≠ _; omega) | exact rfl | trivial | exact pl_ds _ _ _ | exact pl_st3 trivial (pl_pl _) (pl_pl _) | exact fun _ _ => trivial)) ?_
  refine WPL.call (toDessin_fn n b w) (by rfl) (by rfl) (by rfl) (by simp [Sc, sc_pl, sc_ds, pl_ne, ds_ne]) ?_
  refine WPL.call (h1) (by rfl) (by rfl) (by rfl) (by simp [Sc, sc_pl, sc_ds, pl_ne, ds_ne]) ?_
  refine WPL.fin T false tok (by rfl) (by first | trivial | (simp only [Int.toNat_natCast, addrAt0, List.nil_append, List.cons_append, List.append_nil, AllP, plE, InR, Root.holds, Root.readL] <;> and_intros <;> first | omega | assumption | (show _ ≤ _; omega) | (show _ < _; omega) | (show _ ≠ _; omega) | exact rfl | trivial | exact pl_ds _ _ _ | exact pl_st3 trivial (pl_pl _) (pl_pl _) | exact fun _ _ => trivial)) ?_
  refine WP.rw ?_
  refine WPL.run T false 1 tok (by rfl) (by first | trivial | (simp only [Int.toNat_natCast, addrAt0, List.nil_append, List.cons_append, List.append_nil, AllP, plE, InR, Root.holds, Root.readL] <;> and_intros <;> first | omega | assumption | (show _ ≤ _; omega) | (show _ < _; omega) | (show _ ≠ _; omega) | exact rfl | trivial | exact pl_ds _ _ _ | exact pl_st3 trivial (pl_pl _) (pl_pl _) | exact fun _ _ => trivial)) ?_
  refine WPL.call (toDessin_fn n b w) (by rfl) (by rfl) (by rfl) (by simp [Sc, sc_pl, sc_ds, pl_ne, ds_ne]) ?_
  refine WPL.call (h2) (by rfl) (by rfl) (by rfl) (by simp [Sc, sc_pl, sc_ds, pl_ne, ds_ne]) ?_
  refine WPL.fin T false tok (by rfl) (by first | trivial | (simp only [Int.toNat_natCast, addrAt0, List.nil_append, List.cons_append, List.append_nil, AllP, plE, InR, Root.holds, Root.readL] <;> and_intros <;> first | omega | assumption | (show _ ≤ _; omega) | (show _ < _; omega) | (show _ ≠ _; omega) | exact rfl | trivial | exact pl_ds _ _ _ | exact pl_st3 trivial (pl_pl _) (pl_pl _) | exact fun _ _ => trivial)) ?_
  refine WP.seq ?_
  refine WP.rw ?_
  refine WPL.run T false 2 tok (by rfl) (by first | trivial | (simp only [Int.toNat_natCast, addrAt0, List.nil_append, List.cons_append, List.append_nil, AllP, plE, InR, Root.holds, Root.readL] <;> and_intros <;> first | omega | assumption | (show _ ≤ _; omega) | (show _ < _; omega) | (show _ ≠ _; omega) | exact rfl | trivial | exact pl_ds _ _ _ | exact pl_st3 trivial (pl_pl _) (pl_pl _) | exact fun _ _ => trivial)) ?_
  refine WPL.call (eqPlaces_same r) (by rfl) (by rfl) (by rfl) (by simp [Sc, sc_pl, sc_ds, pl_ne, ds_ne]) ?_
  refine WPL.run T false 5 tok (by rfl) (by first | trivial | (simp only [Int.toNat_natCast, addrAt0, List.nil_append, List.cons_append, List.append_nil, AllP, plE, InR, Root.holds, Root.readL] <;> and_intros <;> first | omega | assumption | (show _ ≤ _; omega) | (show _ < _; omega) | (show _ ≠ _; omega) | exact rfl | trivial | exact pl_ds _ _ _ | exact pl_st3 trivial (pl_pl _) (pl_pl _) | exact fun _ _ => trivial)) ?_
  rw [decide_eq_true (rfl : c = c)]
  refine WPL.fin T false tok (by rfl) (by first | trivial | (simp only [Int.toNat_natCast, addrAt0, List.nil_append, List.cons_append, List.append_nil, AllP, plE, InR, Root.holds, Root.readL] <;> and_intros <;> first | omega | assumption | (show _ ≤ _; omega) | (show _ < _; omega) | (show _ ≠ _; omega) | exact rfl | trivial | exact pl_ds _ _ _ | exact pl_st3 trivial (pl_pl _) (pl_pl _) | exact fun _ _ => trivial)) ?_
  refine WP.cond (by rfl) (fun h => ?_) (fun h => WP.skip ?_)
  · cases h
  · refine WP.rs T false tok (by rfl) (by first | trivial | (simp only [Int.toNat_natCast, addrAt0, List.nil_append, List.cons_append, List.append_nil, AllP, plE, InR, Root.holds, Root.readL] <;> and_intros <;> first | omega | assumption | (show _ ≤ _; omega) | (show _ < _; omega) | (show _ ≠ _; omega) | exact rfl | trivial | exact pl_ds _ _ _ | exact pl_st3 trivial (pl_pl _) (pl_pl _) | exact fun _ _ => trivial)) ?_
    exact WP.ret (Ends.val (by rfl) (by first | trivial | (simp only [Int.toNat_natCast, addrAt0, List.nil_append, List.cons_append, List.append_nil, AllP, plE, InR, Root.holds, Root.readL] <;> and_intros <;> first | omega | assumption | (show _ ≤ _; omega) | (show _ < _; omega) | (show _ ≠ _; omega) | exact rfl | trivial | exact pl_ds _ _ _ | exact pl_st3 trivial (pl_pl _) (pl_pl _) | exact fun _ _ => trivial)) (by rfl) (by trivial))

end Go.Proofs.Ytgdcdapkmiekeaa
