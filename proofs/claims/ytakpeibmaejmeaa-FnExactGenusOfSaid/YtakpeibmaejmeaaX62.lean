import Derived.Test.YtakpeibmaejmeaaX47
import Derived.Test.YtakpeibmaejmeaaL18
/- GenusOf: both sides; the law. -/
namespace Go.Proofs.Ytakpeibmaejmeaa
open Go.RowKit DM
set_option linter.unusedSimpArgs false
set_option linter.unusedVariables false
set_option maxRecDepth 100000
set_option maxHeartbeats 1000000

/-- The Euler number is even. -/
theorem eul_even {N : Nat} {b w : Nat → Nat} (hD : Des N b w) : ∃ K : Int, eulV N b w = 2 * K ∧ -64 ≤ K ∧ K ≤ 64 := by
  have hf := perm_face hD
  have hpar := cyc_parity hD.le hD.pb hD.pw hf fun x hx => by
    have hq : Perm N (fillF (fun i => w (b i)) N) := ⟨fun i hi => by simp only [fillF, if_pos hi]; exact hD.pw.lt _ (hD.pb.lt _ hi), fun i j hi hj e => by
      simp only [fillF, if_pos hi, if_pos hj] at e
      exact hD.pb.inj i j hi hj (hD.pw.inj _ _ (hD.pb.lt _ hi) (hD.pb.lt _ hj) e)⟩
    have h1 := backTo_at hq N (Nat.le_refl _) x hx
    have h2 : fillF (fun i => w (b i)) N x = w (b x) := by simp only [fillF, if_pos hx]
    rw [h2] at h1
    exact h1
  have g0 : ((pasL N b w).getD 0 []).length = (cycs b N).length := tyN_len (cycs_lens hD.le hD.pb)
  have g1 : ((pasL N b w).getD 1 []).length = (cycs w N).length := tyN_len (cycs_lens hD.le hD.pw)
  have g2 : ((pasL N b w).getD 2 []).length = (cycs (faceF N b w) N).length := tyN_len (cycs_lens hD.le hf)
  have l0 : (cycs b N).length ≤ N := cyTo_len b N
  have l1 : (cycs w N).length ≤ N := cyTo_len w N
  have l2 : (cycs (faceF N b w) N).length ≤ N := cyTo_len _ N
  have hN := hD.le
  unfold eulV
  rw [g0, g1, g2]
  refine ⟨((((cycs b N).length : Int) + ((cycs w N).length : Int) + ((cycs (faceF N b w) N).length : Int)) - (N : Int)) / 2, ?_, ?_, ?_⟩ <;> omega

noncomputable def genV (N : Nat) (b w : Nat → Nat) : Int := 1 - (eulV N b w).tdiv 2

theorem td1 (K : Int) : (2 * K).tdiv 2 = K := Int.mul_tdiv_cancel_left K (by decide)
theorem td2 (K : Int) : (2 - 2 * K).tdiv 2 = 1 - K := by
  rw [show 2 - 2 * K = 2 * (1 - K) by omega]; exact td1 (1 - K)

theorem l01Genus_fn (N : Nat) (b w : Nat → Nat) (hD : Des N b w) : FnP Try.prog 59 [ds_ N b w] (.i .i64 (genV N b w)) := by
  have he := l01Euler_fn N b w hD
  obtain ⟨K, e, h1, h2⟩ := eul_even hD
  unfold genV
  rw [e] at he ⊢
  rw [td1]
  refine FnS.into T tok Try.func59 (by rfl) rfl rfl rfl (by simp) ?_
  refine WP.rs T false tok (by rfl) (by first | trivial | (simp only [Int.toNat_natCast, addrAt0, List.nil_append, List.cons_append, List.append_nil, AllP, plE, InR, Root.holds, Root.readL] <;> and_intros <;> first | omega | assumption | (show _ ≤ _; omega) | (show _ < _; omega) | (show _ ≠ _; omega) | exact rfl | trivial | exact pl_ds _ _ _ | exact pl_prI _ _ | exact pl_prU _ _ | exact fun _ _ => pl_prU _ _ | exact fun _ _ _ _ => pl_prU _ _ | exact pl_prv _ | exact fun _ _ => pl_prI _ _ | exact fun _ _ => pl_prv _ | exact pl_st3 trivial (pl_pl _) (pl_pl _) | exact fun _ _ => trivial)) ?_
  refine WP.rw ?_
  refine WPL.run T false 1 tok (by rfl) (by first | trivial | (simp only [Int.toNat_natCast, addrAt0, List.nil_append, List.cons_append, List.append_nil, AllP, plE, InR, Root.holds, Root.readL] <;> and_intros <;> first | omega | assumption | (show _ ≤ _; omega) | (show _ < _; omega) | (show _ ≠ _; omega) | exact rfl | trivial | exact pl_ds _ _ _ | exact pl_prI _ _ | exact pl_prU _ _ | exact fun _ _ => pl_prU _ _ | exact fun _ _ _ _ => pl_prU _ _ | exact pl_prv _ | exact fun _ _ => pl_prI _ _ | exact fun _ _ => pl_prv _ | exact pl_st3 trivial (pl_pl _) (pl_pl _) | exact fun _ _ => trivial)) ?_
  refine WPL.call (he) (by rfl) (by rfl) (by rfl) (by simp [Sc, sc_pl, sc_ds, pl_ne, ds_ne]) ?_
  refine WPL.run T false 1 tok (by rfl) (by first | trivial | (simp only [Int.toNat_natCast, addrAt0, List.nil_append, List.cons_append, List.append_nil, AllP, plE, InR, Root.holds, Root.readL] <;> and_intros <;> first | omega | assumption | (show _ ≤ _; omega) | (show _ < _; omega) | (show _ ≠ _; omega) | exact rfl | trivial | exact pl_ds _ _ _ | exact pl_prI _ _ | exact pl_prU _ _ | exact fun _ _ => pl_prU _ _ | exact fun _ _ _ _ => pl_prU _ _ | exact pl_prv _ | exact fun _ _ => pl_prI _ _ | exact fun _ _ => pl_prv _ | exact pl_st3 trivial (pl_pl _) (pl_pl _) | exact fun _ _ => trivial)) ?_
  refine WPL.run T false 1 tok (by rfl) (by (simp only [AllP, InR, td2]; and_intros <;> first | omega | (show _ ≤ _; omega) | trivial)) ?_
  rw [td2]
  refine WPL.fin T false tok (by rfl) (by first | trivial | (simp only [Int.toNat_natCast, addrAt0, List.nil_append, List.cons_append, List.append_nil, AllP, plE, InR, Root.holds, Root.readL] <;> and_intros <;> first | omega | assumption | (show _ ≤ _; omega) | (show _ < _; omega) | (show _ ≠ _; omega) | exact rfl | trivial | exact pl_ds _ _ _ | exact pl_prI _ _ | exact pl_prU _ _ | exact fun _ _ => pl_prU _ _ | exact fun _ _ _ _ => pl_prU _ _ | exact pl_prv _ | exact fun _ _ => pl_prI _ _ | exact fun _ _ => pl_prv _ | exact pl_st3 trivial (pl_pl _) (pl_pl _) | exact fun _ _ => trivial)) ?_
  exact WP.ret (Ends.val (by rfl) (by first | trivial | (simp only [Int.toNat_natCast, addrAt0, List.nil_append, List.cons_append, List.append_nil, AllP, plE, InR, Root.holds, Root.readL] <;> and_intros <;> first | omega | assumption | (show _ ≤ _; omega) | (show _ < _; omega) | (show _ ≠ _; omega) | exact rfl | trivial | exact pl_ds _ _ _ | exact pl_prI _ _ | exact pl_prU _ _ | exact fun _ _ => pl_prU _ _ | exact fun _ _ _ _ => pl_prU _ _ | exact pl_prv _ | exact fun _ _ => pl_prI _ _ | exact fun _ _ => pl_prv _ | exact pl_st3 trivial (pl_pl _) (pl_pl _) | exact fun _ _ => trivial)) (by rfl) (by trivial))

theorem genus_fn (N : Nat) (b w : Nat → Nat) (hD : Des N b w) : FnP Try.prog 60 [ds_ N b w] (.i .i64 (genV N b w)) := by
  have hp := passport_fn N b w hD
  have he := eulerOf_fn (pasL N b w) N hD.le rfl (pas_len hD)
  change FnR _ _ _ _ (.i .i64 (eulV N b w)) at he
  obtain ⟨K, e, h1, h2⟩ := eul_even hD
  unfold genV
  rw [e] at he ⊢
  rw [td1]
  generalize pasL N b w = L at *
  refine FnS.into T tok Try.func60 (by rfl) rfl rfl rfl (by simp) ?_
  refine WP.rs T false tok (by rfl) (by first | trivial | (simp only [Int.toNat_natCast, addrAt0, List.nil_append, List.cons_append, List.append_nil, AllP, plE, InR, Root.holds, Root.readL] <;> and_intros <;> first | omega | assumption | (show _ ≤ _; omega) | (show _ < _; omega) | (show _ ≠ _; omega) | exact rfl | trivial | exact pl_ds _ _ _ | exact pl_prI _ _ | exact pl_prU _ _ | exact fun _ _ => pl_prU _ _ | exact fun _ _ _ _ => pl_prU _ _ | exact pl_prv _ | exact fun _ _ => pl_prI _ _ | exact fun _ _ => pl_prv _ | exact pl_st3 trivial (pl_pl _) (pl_pl _) | exact fun _ _ => trivial)) ?_
  refine WP.seq ?_
  refine WP.da (by kernel_rfl) 5 (by kernel_rfl) ?_
  refine WA.takes T false tok [0, 2, 3] (f' := 5) (by kernel_rfl) (by rfl) (by rfl) (by rfl) (by first | trivial | (simp only [Int.toNat_natCast, addrAt0, List.nil_append, List.cons_append, List.append_nil, AllP, plE, InR, Root.holds, Root.readL] <;> and_intros <;> first | omega | assumption | (show _ ≤ _; omega) | (show _ < _; omega) | (show _ ≠ _; omega) | exact rfl | trivial | exact pl_ds _ _ _ | exact pl_prI _ _ | exact pl_prU _ _ | exact fun _ _ => pl_prU _ _ | exact fun _ _ _ _ => pl_prU _ _ | exact pl_prv _ | exact fun _ _ => pl_prI _ _ | exact fun _ _ => pl_prv _ | exact pl_st3 trivial (pl_pl _) (pl_pl _) | exact fun _ _ => trivial)) (by rfl) (by rfl) ?_
  refine WA.all [1] (by kernel_rfl) (by simp) ?_; intro i' hi'; simp only [List.mem_cons, List.not_mem_nil, or_false] at hi'
  subst hi'
  refine ⟨_, _, _, rfl, by rfl, by rfl, MK.call [] (.sl 1 0 3 1) (hp) (trivial) (by rfl) (by exact .inl rfl) (by rfl) (by repeat (first | exact trivial | (refine ArgsR.cons ?_ (by rfl) ?_) | exact (show _ = _ ∧ _ from ⟨rfl, by first | trivial | exact sc_pl _ _ | exact sc_ds _ _ _ _⟩) | exact (show _ = _ from rfl))) (by simp [Sc, sc_pl, sc_ds]) (by repeat (first | exact trivial | (refine ⟨(by intro d hd; first | (cases hd; done) | (cases hd; (first | trivial | exact sc_p rfl | exact hSc _ _ | exact sc_prv _ _ | exact sc_prUv _ _ | exact sc_prUr _ _ _ _ | exact sc_prow _ _ _ _ | exact sc_sl rfl | exact sc_pl _ _ | exact sc_ds _ _ _ _ | exact fun _ _ => trivial | exact fun _ _ _ _ => trivial | (refine sc_t3 ?_ ?_ ?_ <;> first | trivial | exact sc_sl rfl | exact sc_pl _ _ | exact sc_ds _ _ _ _) | (refine sc_t2 ?_ ?_ <;> first | trivial | exact sc_sl rfl | exact sc_pl _ _ | exact sc_ds _ _ _ _)))), ?_⟩))) (by exact rfl) (by (first | trivial | exact sc_p rfl | exact hSc _ _ | exact sc_prv _ _ | exact sc_prUv _ _ | exact sc_prUr _ _ _ _ | exact sc_prow _ _ _ _ | exact sc_sl rfl | exact sc_pl _ _ | exact sc_ds _ _ _ _ | exact fun _ _ => trivial | exact fun _ _ _ _ => trivial | (refine sc_t3 ?_ ?_ ?_ <;> first | trivial | exact sc_sl rfl | exact sc_pl _ _ | exact sc_ds _ _ _ _) | (refine sc_t2 ?_ ?_ <;> first | trivial | exact sc_sl rfl | exact sc_pl _ _ | exact sc_ds _ _ _ _))) (by rfl), ?_⟩
  refine WA.all [4] (by kernel_rfl) (by simp) ?_; intro i' hi'; simp only [List.mem_cons, List.not_mem_nil, or_false] at hi'
  subst hi'
  refine ⟨_, _, _, rfl, by rfl, by rfl, MK.ofQC (QC.call [1] (he) (by rfl) (LeAll.cons (by rfl) (by first | with_reducible exact Root.Le.refl _ | with_reducible exact le_dead | (skip; done) | exact le_var (by first | rfl | (simp only [upd, pl, bl, ds_, dsf, cast1, Int.toNat_natCast, fup_u8, fup_b, fup_i64, dsf_up0, dsf_up1, dsf_up2]; done) | (simp only [upd, pl, bl, ds_, dsf, cast1, Int.toNat_natCast, fup_u8, fup_b, fup_i64, dsf_up0, dsf_up1, dsf_up2]; rfl)) | exact le_row (Nat.le_refl _) (fun _ _ => rfl) | exact le_ro (Nat.le_refl _) (fun _ _ => rfl) | exact le_frz (Nat.le_refl _) (fun _ _ => rfl)) (by intro d hd; first | (cases hd; done) | (cases hd; (first | trivial | exact sc_p rfl | exact hSc _ _ | exact sc_prv _ _ | exact sc_prUv _ _ | exact sc_prUr _ _ _ _ | exact sc_prow _ _ _ _ | exact sc_sl rfl | exact sc_pl _ _ | exact sc_ds _ _ _ _ | exact fun _ _ => trivial | exact fun _ _ _ _ => trivial | (refine sc_t3 ?_ ?_ ?_ <;> first | trivial | exact sc_sl rfl | exact sc_pl _ _ | exact sc_ds _ _ _ _) | (refine sc_t2 ?_ ?_ <;> first | trivial | exact sc_sl rfl | exact sc_pl _ _ | exact sc_ds _ _ _ _)))) (trivial)) (by repeat (first | exact trivial | (refine ArgsR.cons ?_ (by rfl) ?_) | exact (show _ = _ ∧ _ from ⟨rfl, by first | trivial | exact sc_pl _ _ | exact sc_ds _ _ _ _⟩) | exact (show _ = _ from rfl))) (by simp [Sc, sc_pl, sc_ds])), ?_⟩
  refine WA.tail (by rfl) (by rfl) (by kernel_rfl) ?_
  refine WPL.run T false 1 tok (by rfl) (by (simp only [AllP, InR, td1]; and_intros <;> first | omega | trivial)) ?_
  rw [td1]
  refine WPL.fin T false tok (by rfl) (by first | trivial | (simp only [Int.toNat_natCast, addrAt0, List.nil_append, List.cons_append, List.append_nil, AllP, plE, InR, Root.holds, Root.readL] <;> and_intros <;> first | omega | assumption | (show _ ≤ _; omega) | (show _ < _; omega) | (show _ ≠ _; omega) | exact rfl | trivial | exact pl_ds _ _ _ | exact pl_prI _ _ | exact pl_prU _ _ | exact fun _ _ => pl_prU _ _ | exact fun _ _ _ _ => pl_prU _ _ | exact pl_prv _ | exact fun _ _ => pl_prI _ _ | exact fun _ _ => pl_prv _ | exact pl_st3 trivial (pl_pl _) (pl_pl _) | exact fun _ _ => trivial)) ?_
  refine noPan ?_
  exact WP.ret (Ends.val (by rfl) (by first | trivial | (simp only [Int.toNat_natCast, addrAt0, List.nil_append, List.cons_append, List.append_nil, AllP, plE, InR, Root.holds, Root.readL] <;> and_intros <;> first | omega | assumption | (show _ ≤ _; omega) | (show _ < _; omega) | (show _ ≠ _; omega) | exact rfl | trivial | exact pl_ds _ _ _ | exact pl_prI _ _ | exact pl_prU _ _ | exact fun _ _ => pl_prU _ _ | exact fun _ _ _ _ => pl_prU _ _ | exact pl_prv _ | exact fun _ _ => pl_prI _ _ | exact fun _ _ => pl_prv _ | exact pl_st3 trivial (pl_pl _) (pl_pl _) | exact fun _ _ => trivial)) (by rfl) (by trivial))

noncomputable def genR (n : Int) (b w : Nat → Nat) : Dat := bif desB n b w then t2 (.i .i64 (genV n.toNat b w)) (.i .i64 0) else t2 (.i .i64 0) (.i .i64 1)

theorem genR_form (n : Int) (b w : Nat → Nat) : ∃ r c, genR n b w = t2 (.i .i64 r) (.i .i64 c) := by
  unfold genR
  cases desB n b w with
  | true => exact ⟨_, _, rfl⟩
  | false => exact ⟨_, _, rfl⟩

theorem specGenus_fn (n : Int) (b w : Nat → Nat) (hb : ∀ i, b i < 256) (hw : ∀ i, w i < 256) : FnP Try.prog 25 [ds_ n b w] (genR n b w) := by
  unfold genR
  cases hc : desB n b w
  · rw [cond_false]
    refine FnS.into T tok Try.func25 (by rfl) rfl rfl rfl (by simp) ?_
    refine WP.rs T false tok (by rfl) (by first | trivial | (simp only [Int.toNat_natCast, addrAt0, List.nil_append, List.cons_append, List.append_nil, AllP, plE, InR, Root.holds, Root.readL] <;> and_intros <;> first | omega | assumption | (show _ ≤ _; omega) | (show _ < _; omega) | (show _ ≠ _; omega) | exact rfl | trivial | exact pl_ds _ _ _ | exact pl_prI _ _ | exact pl_prU _ _ | exact fun _ _ => pl_prU _ _ | exact fun _ _ _ _ => pl_prU _ _ | exact pl_prv _ | exact fun _ _ => pl_prI _ _ | exact fun _ _ => pl_prv _ | exact pl_st3 trivial (pl_pl _) (pl_pl _) | exact fun _ _ => trivial)) ?_
    refine WP.seq ?_
    refine WP.rw ?_
    refine WPL.run T false 1 tok (by rfl) (by first | trivial | (simp only [Int.toNat_natCast, addrAt0, List.nil_append, List.cons_append, List.append_nil, AllP, plE, InR, Root.holds, Root.readL] <;> and_intros <;> first | omega | assumption | (show _ ≤ _; omega) | (show _ < _; omega) | (show _ ≠ _; omega) | exact rfl | trivial | exact pl_ds _ _ _ | exact pl_prI _ _ | exact pl_prU _ _ | exact fun _ _ => pl_prU _ _ | exact fun _ _ _ _ => pl_prU _ _ | exact pl_prv _ | exact fun _ _ => pl_prI _ _ | exact fun _ _ => pl_prv _ | exact pl_st3 trivial (pl_pl _) (pl_pl _) | exact fun _ _ => trivial)) ?_
    refine WPL.call (hc ▸ l01Is_fn n b w hb hw) (by rfl) (by rfl) (by rfl) (by simp [Sc, sc_pl, sc_ds, pl_ne, ds_ne]) ?_
    refine WPL.fin T false tok (by rfl) (by first | trivial | (simp only [Int.toNat_natCast, addrAt0, List.nil_append, List.cons_append, List.append_nil, AllP, plE, InR, Root.holds, Root.readL] <;> and_intros <;> first | omega | assumption | (show _ ≤ _; omega) | (show _ < _; omega) | (show _ ≠ _; omega) | exact rfl | trivial | exact pl_ds _ _ _ | exact pl_prI _ _ | exact pl_prU _ _ | exact fun _ _ => pl_prU _ _ | exact fun _ _ _ _ => pl_prU _ _ | exact pl_prv _ | exact fun _ _ => pl_prI _ _ | exact fun _ _ => pl_prv _ | exact pl_st3 trivial (pl_pl _) (pl_pl _) | exact fun _ _ => trivial)) ?_
    refine WP.cond (by rfl) (fun h => ?_) (fun h => WP.skip ?_)
    · refine WP.rs T false tok (by rfl) (by first | trivial | (simp only [Int.toNat_natCast, addrAt0, List.nil_append, List.cons_append, List.append_nil, AllP, plE, InR, Root.holds, Root.readL] <;> and_intros <;> first | omega | assumption | (show _ ≤ _; omega) | (show _ < _; omega) | (show _ ≠ _; omega) | exact rfl | trivial | exact pl_ds _ _ _ | exact pl_prI _ _ | exact pl_prU _ _ | exact fun _ _ => pl_prU _ _ | exact fun _ _ _ _ => pl_prU _ _ | exact pl_prv _ | exact fun _ _ => pl_prI _ _ | exact fun _ _ => pl_prv _ | exact pl_st3 trivial (pl_pl _) (pl_pl _) | exact fun _ _ => trivial)) ?_
      exact WP.ret (Ends.val (by rfl) (by first | trivial | (simp only [Int.toNat_natCast, addrAt0, List.nil_append, List.cons_append, List.append_nil, AllP, plE, InR, Root.holds, Root.readL] <;> and_intros <;> first | omega | assumption | (show _ ≤ _; omega) | (show _ < _; omega) | (show _ ≠ _; omega) | exact rfl | trivial | exact pl_ds _ _ _ | exact pl_prI _ _ | exact pl_prU _ _ | exact fun _ _ => pl_prU _ _ | exact fun _ _ _ _ => pl_prU _ _ | exact pl_prv _ | exact fun _ _ => pl_prI _ _ | exact fun _ _ => pl_prv _ | exact pl_st3 trivial (pl_pl _) (pl_pl _) | exact fun _ _ => trivial)) (by rfl) (by exact sc_t2 trivial trivial))
    · cases h
  · obtain ⟨N, rfl, hD⟩ := des_of_B hc
    rw [cond_true, Int.toNat_natCast]
    have hg := l01Genus_fn N b w hD
    generalize genV N b w = G at *
    refine FnS.into T tok Try.func25 (by rfl) rfl rfl rfl (by simp) ?_
    refine WP.rs T false tok (by rfl) (by first | trivial | (simp only [Int.toNat_natCast, addrAt0, List.nil_append, List.cons_append, List.append_nil, AllP, plE, InR, Root.holds, Root.readL] <;> and_intros <;> first | omega | assumption | (show _ ≤ _; omega) | (show _ < _; omega) | (show _ ≠ _; omega) | exact rfl | trivial | exact pl_ds _ _ _ | exact pl_prI _ _ | exact pl_prU _ _ | exact fun _ _ => pl_prU _ _ | exact fun _ _ _ _ => pl_prU _ _ | exact pl_prv _ | exact fun _ _ => pl_prI _ _ | exact fun _ _ => pl_prv _ | exact pl_st3 trivial (pl_pl _) (pl_pl _) | exact fun _ _ => trivial)) ?_
    refine WP.seq ?_
    refine WP.rw ?_
    refine WPL.run T false 1 tok (by rfl) (by first | trivial | (simp only [Int.toNat_natCast, addrAt0, List.nil_append, List.cons_append, List.append_nil, AllP, plE, InR, Root.holds, Root.readL] <;> and_intros <;> first | omega | assumption | (show _ ≤ _; omega) | (show _ < _; omega) | (show _ ≠ _; omega) | exact rfl | trivial | exact pl_ds _ _ _ | exact pl_prI _ _ | exact pl_prU _ _ | exact fun _ _ => pl_prU _ _ | exact fun _ _ _ _ => pl_prU _ _ | exact pl_prv _ | exact fun _ _ => pl_prI _ _ | exact fun _ _ => pl_prv _ | exact pl_st3 trivial (pl_pl _) (pl_pl _) | exact fun _ _ => trivial)) ?_
    refine WPL.call (hc ▸ l01Is_fn N b w hb hw) (by rfl) (by rfl) (by rfl) (by simp [Sc, sc_pl, sc_ds, pl_ne, ds_ne]) ?_
    refine WPL.fin T false tok (by rfl) (by first | trivial | (simp only [Int.toNat_natCast, addrAt0, List.nil_append, List.cons_append, List.append_nil, AllP, plE, InR, Root.holds, Root.readL] <;> and_intros <;> first | omega | assumption | (show _ ≤ _; omega) | (show _ < _; omega) | (show _ ≠ _; omega) | exact rfl | trivial | exact pl_ds _ _ _ | exact pl_prI _ _ | exact pl_prU _ _ | exact fun _ _ => pl_prU _ _ | exact fun _ _ _ _ => pl_prU _ _ | exact pl_prv _ | exact fun _ _ => pl_prI _ _ | exact fun _ _ => pl_prv _ | exact pl_st3 trivial (pl_pl _) (pl_pl _) | exact fun _ _ => trivial)) ?_
    refine WP.cond (by rfl) (fun h => ?_) (fun h => WP.skip ?_)
    · cases h
    refine WP.rw ?_
    refine WPL.run T false 1 tok (by rfl) (by first | trivial | (simp only [Int.toNat_natCast, addrAt0, List.nil_append, List.cons_append, List.append_nil, AllP, plE, InR, Root.holds, Root.readL] <;> and_intros <;> first | omega | assumption | (show _ ≤ _; omega) | (show _ < _; omega) | (show _ ≠ _; omega) | exact rfl | trivial | exact pl_ds _ _ _ | exact pl_prI _ _ | exact pl_prU _ _ | exact fun _ _ => pl_prU _ _ | exact fun _ _ _ _ => pl_prU _ _ | exact pl_prv _ | exact fun _ _ => pl_prI _ _ | exact fun _ _ => pl_prv _ | exact pl_st3 trivial (pl_pl _) (pl_pl _) | exact fun _ _ => trivial)) ?_
    refine WPL.call (hg) (by rfl) (by rfl) (by rfl) (by simp [Sc, sc_pl, sc_ds, pl_ne, ds_ne]) ?_
    refine WPL.fin T false tok (by rfl) (by first | trivial | (simp only [Int.toNat_natCast, addrAt0, List.nil_append, List.cons_append, List.append_nil, AllP, plE, InR, Root.holds, Root.readL] <;> and_intros <;> first | omega | assumption | (show _ ≤ _; omega) | (show _ < _; omega) | (show _ ≠ _; omega) | exact rfl | trivial | exact pl_ds _ _ _ | exact pl_prI _ _ | exact pl_prU _ _ | exact fun _ _ => pl_prU _ _ | exact fun _ _ _ _ => pl_prU _ _ | exact pl_prv _ | exact fun _ _ => pl_prI _ _ | exact fun _ _ => pl_prv _ | exact pl_st3 trivial (pl_pl _) (pl_pl _) | exact fun _ _ => trivial)) ?_
    exact WP.ret (Ends.val (by rfl) (by first | trivial | (simp only [Int.toNat_natCast, addrAt0, List.nil_append, List.cons_append, List.append_nil, AllP, plE, InR, Root.holds, Root.readL] <;> and_intros <;> first | omega | assumption | (show _ ≤ _; omega) | (show _ < _; omega) | (show _ ≠ _; omega) | exact rfl | trivial | exact pl_ds _ _ _ | exact pl_prI _ _ | exact pl_prU _ _ | exact fun _ _ => pl_prU _ _ | exact fun _ _ _ _ => pl_prU _ _ | exact pl_prv _ | exact fun _ _ => pl_prI _ _ | exact fun _ _ => pl_prv _ | exact pl_st3 trivial (pl_pl _) (pl_pl _) | exact fun _ _ => trivial)) (by rfl) (by exact sc_t2 trivial trivial))

theorem implGenus_fn (n : Int) (b w : Nat → Nat) (hb : ∀ i, b i < 256) (hw : ∀ i, w i < 256) : FnP Try.prog 26 [ds_ n b w] (genR n b w) := by
  unfold genR
  cases hc : desB n b w
  · rw [cond_false]
    refine FnS.into T tok Try.func26 (by rfl) rfl rfl rfl (by simp) ?_
    refine WP.rs T false tok (by rfl) (by first | trivial | (simp only [Int.toNat_natCast, addrAt0, List.nil_append, List.cons_append, List.append_nil, AllP, plE, InR, Root.holds, Root.readL] <;> and_intros <;> first | omega | assumption | (show _ ≤ _; omega) | (show _ < _; omega) | (show _ ≠ _; omega) | exact rfl | trivial | exact pl_ds _ _ _ | exact pl_prI _ _ | exact pl_prU _ _ | exact fun _ _ => pl_prU _ _ | exact fun _ _ _ _ => pl_prU _ _ | exact pl_prv _ | exact fun _ _ => pl_prI _ _ | exact fun _ _ => pl_prv _ | exact pl_st3 trivial (pl_pl _) (pl_pl _) | exact fun _ _ => trivial)) ?_
    refine WP.seq ?_
    refine WP.rw ?_
    refine WPL.run T false 1 tok (by rfl) (by first | trivial | (simp only [Int.toNat_natCast, addrAt0, List.nil_append, List.cons_append, List.append_nil, AllP, plE, InR, Root.holds, Root.readL] <;> and_intros <;> first | omega | assumption | (show _ ≤ _; omega) | (show _ < _; omega) | (show _ ≠ _; omega) | exact rfl | trivial | exact pl_ds _ _ _ | exact pl_prI _ _ | exact pl_prU _ _ | exact fun _ _ => pl_prU _ _ | exact fun _ _ _ _ => pl_prU _ _ | exact pl_prv _ | exact fun _ _ => pl_prI _ _ | exact fun _ _ => pl_prv _ | exact pl_st3 trivial (pl_pl _) (pl_pl _) | exact fun _ _ => trivial)) ?_
    refine WPL.call (hc ▸ implIsDessin_fn n b w hb hw) (by rfl) (by rfl) (by rfl) (by simp [Sc, sc_pl, sc_ds, pl_ne, ds_ne]) ?_
    refine WPL.fin T false tok (by rfl) (by first | trivial | (simp only [Int.toNat_natCast, addrAt0, List.nil_append, List.cons_append, List.append_nil, AllP, plE, InR, Root.holds, Root.readL] <;> and_intros <;> first | omega | assumption | (show _ ≤ _; omega) | (show _ < _; omega) | (show _ ≠ _; omega) | exact rfl | trivial | exact pl_ds _ _ _ | exact pl_prI _ _ | exact pl_prU _ _ | exact fun _ _ => pl_prU _ _ | exact fun _ _ _ _ => pl_prU _ _ | exact pl_prv _ | exact fun _ _ => pl_prI _ _ | exact fun _ _ => pl_prv _ | exact pl_st3 trivial (pl_pl _) (pl_pl _) | exact fun _ _ => trivial)) ?_
    refine WP.cond (by rfl) (fun h => ?_) (fun h => WP.skip ?_)
    · refine WP.rs T false tok (by rfl) (by first | trivial | (simp only [Int.toNat_natCast, addrAt0, List.nil_append, List.cons_append, List.append_nil, AllP, plE, InR, Root.holds, Root.readL] <;> and_intros <;> first | omega | assumption | (show _ ≤ _; omega) | (show _ < _; omega) | (show _ ≠ _; omega) | exact rfl | trivial | exact pl_ds _ _ _ | exact pl_prI _ _ | exact pl_prU _ _ | exact fun _ _ => pl_prU _ _ | exact fun _ _ _ _ => pl_prU _ _ | exact pl_prv _ | exact fun _ _ => pl_prI _ _ | exact fun _ _ => pl_prv _ | exact pl_st3 trivial (pl_pl _) (pl_pl _) | exact fun _ _ => trivial)) ?_
      exact WP.ret (Ends.val (by rfl) (by first | trivial | (simp only [Int.toNat_natCast, addrAt0, List.nil_append, List.cons_append, List.append_nil, AllP, plE, InR, Root.holds, Root.readL] <;> and_intros <;> first | omega | assumption | (show _ ≤ _; omega) | (show _ < _; omega) | (show _ ≠ _; omega) | exact rfl | trivial | exact pl_ds _ _ _ | exact pl_prI _ _ | exact pl_prU _ _ | exact fun _ _ => pl_prU _ _ | exact fun _ _ _ _ => pl_prU _ _ | exact pl_prv _ | exact fun _ _ => pl_prI _ _ | exact fun _ _ => pl_prv _ | exact pl_st3 trivial (pl_pl _) (pl_pl _) | exact fun _ _ => trivial)) (by rfl) (by exact sc_t2 trivial trivial))
    · cases h
  · obtain ⟨N, rfl, hD⟩ := des_of_B hc
    rw [cond_true, Int.toNat_natCast]
    have hg := genus_fn N b w hD
    generalize genV N b w = G at *
    refine FnS.into T tok Try.func26 (by rfl) rfl rfl rfl (by simp) ?_
    refine WP.rs T false tok (by rfl) (by first | trivial | (simp only [Int.toNat_natCast, addrAt0, List.nil_append, List.cons_append, List.append_nil, AllP, plE, InR, Root.holds, Root.readL] <;> and_intros <;> first | omega | assumption | (show _ ≤ _; omega) | (show _ < _; omega) | (show _ ≠ _; omega) | exact rfl | trivial | exact pl_ds _ _ _ | exact pl_prI _ _ | exact pl_prU _ _ | exact fun _ _ => pl_prU _ _ | exact fun _ _ _ _ => pl_prU _ _ | exact pl_prv _ | exact fun _ _ => pl_prI _ _ | exact fun _ _ => pl_prv _ | exact pl_st3 trivial (pl_pl _) (pl_pl _) | exact fun _ _ => trivial)) ?_
    refine WP.seq ?_
    refine WP.rw ?_
    refine WPL.run T false 1 tok (by rfl) (by first | trivial | (simp only [Int.toNat_natCast, addrAt0, List.nil_append, List.cons_append, List.append_nil, AllP, plE, InR, Root.holds, Root.readL] <;> and_intros <;> first | omega | assumption | (show _ ≤ _; omega) | (show _ < _; omega) | (show _ ≠ _; omega) | exact rfl | trivial | exact pl_ds _ _ _ | exact pl_prI _ _ | exact pl_prU _ _ | exact fun _ _ => pl_prU _ _ | exact fun _ _ _ _ => pl_prU _ _ | exact pl_prv _ | exact fun _ _ => pl_prI _ _ | exact fun _ _ => pl_prv _ | exact pl_st3 trivial (pl_pl _) (pl_pl _) | exact fun _ _ => trivial)) ?_
    refine WPL.call (hc ▸ implIsDessin_fn N b w hb hw) (by rfl) (by rfl) (by rfl) (by simp [Sc, sc_pl, sc_ds, pl_ne, ds_ne]) ?_
    refine WPL.fin T false tok (by rfl) (by first | trivial | (simp only [Int.toNat_natCast, addrAt0, List.nil_append, List.cons_append, List.append_nil, AllP, plE, InR, Root.holds, Root.readL] <;> and_intros <;> first | omega | assumption | (show _ ≤ _; omega) | (show _ < _; omega) | (show _ ≠ _; omega) | exact rfl | trivial | exact pl_ds _ _ _ | exact pl_prI _ _ | exact pl_prU _ _ | exact fun _ _ => pl_prU _ _ | exact fun _ _ _ _ => pl_prU _ _ | exact pl_prv _ | exact fun _ _ => pl_prI _ _ | exact fun _ _ => pl_prv _ | exact pl_st3 trivial (pl_pl _) (pl_pl _) | exact fun _ _ => trivial)) ?_
    refine WP.cond (by rfl) (fun h => ?_) (fun h => WP.skip ?_)
    · cases h
    refine WP.rw ?_
    refine WPL.run T false 1 tok (by rfl) (by first | trivial | (simp only [Int.toNat_natCast, addrAt0, List.nil_append, List.cons_append, List.append_nil, AllP, plE, InR, Root.holds, Root.readL] <;> and_intros <;> first | omega | assumption | (show _ ≤ _; omega) | (show _ < _; omega) | (show _ ≠ _; omega) | exact rfl | trivial | exact pl_ds _ _ _ | exact pl_prI _ _ | exact pl_prU _ _ | exact fun _ _ => pl_prU _ _ | exact fun _ _ _ _ => pl_prU _ _ | exact pl_prv _ | exact fun _ _ => pl_prI _ _ | exact fun _ _ => pl_prv _ | exact pl_st3 trivial (pl_pl _) (pl_pl _) | exact fun _ _ => trivial)) ?_
    refine WPL.call (hg) (by rfl) (by rfl) (by rfl) (by simp [Sc, sc_pl, sc_ds, pl_ne, ds_ne]) ?_
    refine WPL.fin T false tok (by rfl) (by first | trivial | (simp only [Int.toNat_natCast, addrAt0, List.nil_append, List.cons_append, List.append_nil, AllP, plE, InR, Root.holds, Root.readL] <;> and_intros <;> first | omega | assumption | (show _ ≤ _; omega) | (show _ < _; omega) | (show _ ≠ _; omega) | exact rfl | trivial | exact pl_ds _ _ _ | exact pl_prI _ _ | exact pl_prU _ _ | exact fun _ _ => pl_prU _ _ | exact fun _ _ _ _ => pl_prU _ _ | exact pl_prv _ | exact fun _ _ => pl_prI _ _ | exact fun _ _ => pl_prv _ | exact pl_st3 trivial (pl_pl _) (pl_pl _) | exact fun _ _ => trivial)) ?_
    exact WP.ret (Ends.val (by rfl) (by first | trivial | (simp only [Int.toNat_natCast, addrAt0, List.nil_append, List.cons_append, List.append_nil, AllP, plE, InR, Root.holds, Root.readL] <;> and_intros <;> first | omega | assumption | (show _ ≤ _; omega) | (show _ < _; omega) | (show _ ≠ _; omega) | exact rfl | trivial | exact pl_ds _ _ _ | exact pl_prI _ _ | exact pl_prU _ _ | exact fun _ _ => pl_prU _ _ | exact fun _ _ _ _ => pl_prU _ _ | exact pl_prv _ | exact fun _ _ => pl_prI _ _ | exact fun _ _ => pl_prv _ | exact pl_st3 trivial (pl_pl _) (pl_pl _) | exact fun _ _ => trivial)) (by rfl) (by exact sc_t2 trivial trivial))

theorem law_GenusOf (n : Int) (b w : Nat → Nat) (_hn : -9223372036854775808 ≤ n ∧ n ≤ 9223372036854775807) (hb : ∀ i, b i < 256) (hw : ∀ i, w i < 256) : FnP Try.prog 6 [ds_ n b w] (.b true) := by
  obtain ⟨r, c, e⟩ := genR_form n (lim b) (lim w)
  have h1 := specGenus_fn n (lim b) (lim w) (lim_lt hb) (lim_lt hw)
  have h2 := implGenus_fn n (lim b) (lim w) (lim_lt hb) (lim_lt hw)
  rw [e] at h1 h2
  refine FnS.into T tok Try.func6 (by rfl) rfl rfl rfl (by simp) ?_
  refine WP.rs T false tok (by rfl) (by first | trivial | (simp only [Int.toNat_natCast, addrAt0, List.nil_append, List.cons_append, List.append_nil, AllP, plE, InR, Root.holds, Root.readL] <;> and_intros <;> first | omega | assumption | (show _ ≤ _; omega) | (show _ < _; omega) | (show _ ≠ _; omega) | exact rfl | trivial | exact pl_ds _ _ _ | exact pl_prI _ _ | exact pl_prU _ _ | exact fun _ _ => pl_prU _ _ | exact fun _ _ _ _ => pl_prU _ _ | exact pl_prv _ | exact fun _ _ => pl_prI _ _ | exact fun _ _ => pl_prv _ | exact pl_st3 trivial (pl_pl _) (pl_pl _) | exact fun _ _ => trivial)) ?_
  refine WP.rw ?_
  refine WPL.run T false 1 tok (by rfl) (by first | trivial | (simp only [Int.toNat_natCast, addrAt0, List.nil_append, List.cons_append, List.append_nil, AllP, plE, InR, Root.holds, Root.readL] <;> and_intros <;> first | omega | assumption | (show _ ≤ _; omega) | (show _ < _; omega) | (show _ ≠ _; omega) | exact rfl | trivial | exact pl_ds _ _ _ | exact pl_prI _ _ | exact pl_prU _ _ | exact fun _ _ => pl_prU _ _ | exact fun _ _ _ _ => pl_prU _ _ | exact pl_prv _ | exact fun _ _ => pl_prI _ _ | exact fun _ _ => pl_prv _ | exact pl_st3 trivial (pl_pl _) (pl_pl _) | exact fun _ _ => trivial)) ?_
  refine WPL.call (toDessin_fn n b w) (by rfl) (by rfl) (by rfl) (by simp [Sc, sc_pl, sc_ds, pl_ne, ds_ne]) ?_
  refine WPL.call (h1) (by rfl) (by rfl) (by rfl) (by simp [Sc, sc_pl, sc_ds, pl_ne, ds_ne]) ?_
  refine WPL.fin T false tok (by rfl) (by first | trivial | (simp only [Int.toNat_natCast, addrAt0, List.nil_append, List.cons_append, List.append_nil, AllP, plE, InR, Root.holds, Root.readL] <;> and_intros <;> first | omega | assumption | (show _ ≤ _; omega) | (show _ < _; omega) | (show _ ≠ _; omega) | exact rfl | trivial | exact pl_ds _ _ _ | exact pl_prI _ _ | exact pl_prU _ _ | exact fun _ _ => pl_prU _ _ | exact fun _ _ _ _ => pl_prU _ _ | exact pl_prv _ | exact fun _ _ => pl_prI _ _ | exact fun _ _ => pl_prv _ | exact pl_st3 trivial (pl_pl _) (pl_pl _) | exact fun _ _ => trivial)) ?_
  refine WP.rw ?_
  refine WPL.run T false 1 tok (by rfl) (by first | trivial | (simp only [Int.toNat_natCast, addrAt0, List.nil_append, List.cons_append, List.append_nil, AllP, plE, InR, Root.holds, Root.readL] <;> and_intros <;> first | omega | assumption | (show _ ≤ _; omega) | (show _ < _; omega) | (show _ ≠ _; omega) | exact rfl | trivial | exact pl_ds _ _ _ | exact pl_prI _ _ | exact pl_prU _ _ | exact fun _ _ => pl_prU _ _ | exact fun _ _ _ _ => pl_prU _ _ | exact pl_prv _ | exact fun _ _ => pl_prI _ _ | exact fun _ _ => pl_prv _ | exact pl_st3 trivial (pl_pl _) (pl_pl _) | exact fun _ _ => trivial)) ?_
  refine WPL.call (toDessin_fn n b w) (by rfl) (by rfl) (by rfl) (by simp [Sc, sc_pl, sc_ds, pl_ne, ds_ne]) ?_
  refine WPL.call (h2) (by rfl) (by rfl) (by rfl) (by simp [Sc, sc_pl, sc_ds, pl_ne, ds_ne]) ?_
  refine WPL.fin T false tok (by rfl) (by first | trivial | (simp only [Int.toNat_natCast, addrAt0, List.nil_append, List.cons_append, List.append_nil, AllP, plE, InR, Root.holds, Root.readL] <;> and_intros <;> first | omega | assumption | (show _ ≤ _; omega) | (show _ < _; omega) | (show _ ≠ _; omega) | exact rfl | trivial | exact pl_ds _ _ _ | exact pl_prI _ _ | exact pl_prU _ _ | exact fun _ _ => pl_prU _ _ | exact fun _ _ _ _ => pl_prU _ _ | exact pl_prv _ | exact fun _ _ => pl_prI _ _ | exact fun _ _ => pl_prv _ | exact pl_st3 trivial (pl_pl _) (pl_pl _) | exact fun _ _ => trivial)) ?_
  refine WP.seq ?_
  refine WP.rw ?_
  refine WPL.run T false 3 tok (by rfl) (by first | trivial | (simp only [Int.toNat_natCast, addrAt0, List.nil_append, List.cons_append, List.append_nil, AllP, plE, InR, Root.holds, Root.readL] <;> and_intros <;> first | omega | assumption | (show _ ≤ _; omega) | (show _ < _; omega) | (show _ ≠ _; omega) | exact rfl | trivial | exact pl_ds _ _ _ | exact pl_prI _ _ | exact pl_prU _ _ | exact fun _ _ => pl_prU _ _ | exact fun _ _ _ _ => pl_prU _ _ | exact pl_prv _ | exact fun _ _ => pl_prI _ _ | exact fun _ _ => pl_prv _ | exact pl_st3 trivial (pl_pl _) (pl_pl _) | exact fun _ _ => trivial)) ?_
  rw [decide_eq_true (rfl : r = r)]
  refine WPL.run T false 4 tok (by rfl) (by first | trivial | (simp only [Int.toNat_natCast, addrAt0, List.nil_append, List.cons_append, List.append_nil, AllP, plE, InR, Root.holds, Root.readL] <;> and_intros <;> first | omega | assumption | (show _ ≤ _; omega) | (show _ < _; omega) | (show _ ≠ _; omega) | exact rfl | trivial | exact pl_ds _ _ _ | exact pl_prI _ _ | exact pl_prU _ _ | exact fun _ _ => pl_prU _ _ | exact fun _ _ _ _ => pl_prU _ _ | exact pl_prv _ | exact fun _ _ => pl_prI _ _ | exact fun _ _ => pl_prv _ | exact pl_st3 trivial (pl_pl _) (pl_pl _) | exact fun _ _ => trivial)) ?_
  rw [decide_eq_true (rfl : c = c)]
  refine WPL.fin T false tok (by rfl) (by first | trivial | (simp only [Int.toNat_natCast, addrAt0, List.nil_append, List.cons_append, List.append_nil, AllP, plE, InR, Root.holds, Root.readL] <;> and_intros <;> first | omega | assumption | (show _ ≤ _; omega) | (show _ < _; omega) | (show _ ≠ _; omega) | exact rfl | trivial | exact pl_ds _ _ _ | exact pl_prI _ _ | exact pl_prU _ _ | exact fun _ _ => pl_prU _ _ | exact fun _ _ _ _ => pl_prU _ _ | exact pl_prv _ | exact fun _ _ => pl_prI _ _ | exact fun _ _ => pl_prv _ | exact pl_st3 trivial (pl_pl _) (pl_pl _) | exact fun _ _ => trivial)) ?_
  refine WP.cond (by rfl) (fun h => ?_) (fun h => WP.skip ?_)
  · simp at h
  · refine WP.rs T false tok (by rfl) (by first | trivial | (simp only [Int.toNat_natCast, addrAt0, List.nil_append, List.cons_append, List.append_nil, AllP, plE, InR, Root.holds, Root.readL] <;> and_intros <;> first | omega | assumption | (show _ ≤ _; omega) | (show _ < _; omega) | (show _ ≠ _; omega) | exact rfl | trivial | exact pl_ds _ _ _ | exact pl_prI _ _ | exact pl_prU _ _ | exact fun _ _ => pl_prU _ _ | exact fun _ _ _ _ => pl_prU _ _ | exact pl_prv _ | exact fun _ _ => pl_prI _ _ | exact fun _ _ => pl_prv _ | exact pl_st3 trivial (pl_pl _) (pl_pl _) | exact fun _ _ => trivial)) ?_
    exact WP.ret (Ends.val (by rfl) (by first | trivial | (simp only [Int.toNat_natCast, addrAt0, List.nil_append, List.cons_append, List.append_nil, AllP, plE, InR, Root.holds, Root.readL] <;> and_intros <;> first | omega | assumption | (show _ ≤ _; omega) | (show _ < _; omega) | (show _ ≠ _; omega) | exact rfl | trivial | exact pl_ds _ _ _ | exact pl_prI _ _ | exact pl_prU _ _ | exact fun _ _ => pl_prU _ _ | exact fun _ _ _ _ => pl_prU _ _ | exact pl_prv _ | exact fun _ _ => pl_prI _ _ | exact fun _ _ => pl_prv _ | exact pl_st3 trivial (pl_pl _) (pl_pl _) | exact fun _ _ => trivial)) (by rfl) (by trivial))

end Go.Proofs.Ytakpeibmaejmeaa
