import Derived.Test.YtokhjhkicledmaaX86
/- Groups: the laws of the order, of membership and of regularity. -/
namespace Go.Proofs.Ytokhjhkicledmaa
open Go.RowKit DM
set_option linter.unusedSimpArgs false
set_option linter.unusedVariables false
set_option maxRecDepth 100000
set_option maxHeartbeats 1000000

theorem igR_form (n : Int) (b w p : Nat → Nat) : ∃ r c, igR n b w p = t2 (.b r) (.i .i64 c) := by
  unfold igR
  cases desB n b w with
  | true => cases permB p n with
    | true => exact ⟨_, _, rfl⟩
    | false => exact ⟨_, _, rfl⟩
  | false => exact ⟨_, _, rfl⟩

theorem lim_z (p : Nat → Nat) : ∀ i, 16 ≤ i → lim p i = 0 := fun i hi => by unfold lim; rw [if_neg (by omega)]

theorem law_InGroup (n : Int) (b w : Nat → Nat) (_hn : -9223372036854775808 ≤ n ∧ n ≤ 9223372036854775807) (hb : ∀ i, b i < 256) (hw : ∀ i, w i < 256) (p : Nat → Nat) (hp : ∀ i, p i < 256) : FnP Try.prog 3 [ds_ n b w, pl p] (.b true) := by
  obtain ⟨r, c, e⟩ := igR_form n (lim b) (lim w) (lim p)
  have h1 := specInGroup_fn n (lim b) (lim w) (lim p) (lim_lt hb) (lim_lt hw) (lim_lt hp) (lim_z b) (lim_z w) (lim_z p)
  have h2 := implInGroup_fn n (lim b) (lim w) (lim p) (lim_lt hb) (lim_lt hw) (lim_lt hp) (lim_z b) (lim_z w) (lim_z p)
  rw [e] at h1 h2
  refine FnS.into T tok Try.func3 (by rfl) rfl rfl rfl (by simp) ?_
  refine WP.rs T false tok (by rfl) (by first | trivial | (simp only [Int.toNat_natCast, addrAt0, List.nil_append, List.cons_append, List.append_nil, AllP, plE, InR, Root.holds, Root.readL] <;> and_intros <;> first | omega | assumption | (show _ ≤ _; omega) | (show _ < _; omega) | (show _ ≠ _; omega) | exact rfl | trivial | exact pl_ds _ _ _ | exact pl_prI _ _ | exact pl_prU _ _ | exact fun _ _ => pl_prU _ _ | exact fun _ _ _ _ => pl_prU _ _ | exact pl_prv _ | exact fun _ _ => pl_prI _ _ | exact fun _ _ => pl_prv _ | exact pl_st3 trivial (pl_pl _) (pl_pl _) | exact fun _ _ => trivial | exact fun i h => sc_ds _ _ _ _ i h)) ?_
  refine WP.seq ?_
  refine WP.da (by kernel_rfl) 10 (by kernel_rfl) ?_
  refine WA.takes T false tok [0, 2] (f' := 8) (by kernel_rfl) (by rfl) (by rfl) (by rfl) (by first | trivial | (simp only [Int.toNat_natCast, addrAt0, List.nil_append, List.cons_append, List.append_nil, AllP, plE, InR, Root.holds, Root.readL] <;> and_intros <;> first | omega | assumption | (show _ ≤ _; omega) | (show _ < _; omega) | (show _ ≠ _; omega) | exact rfl | trivial | exact pl_ds _ _ _ | exact pl_prI _ _ | exact pl_prU _ _ | exact fun _ _ => pl_prU _ _ | exact fun _ _ _ _ => pl_prU _ _ | exact pl_prv _ | exact fun _ _ => pl_prI _ _ | exact fun _ _ => pl_prv _ | exact pl_st3 trivial (pl_pl _) (pl_pl _) | exact fun _ _ => trivial | exact fun i h => sc_ds _ _ _ _ i h)) (by rfl) (by rfl) ?_
  refine WA.all [1] (by kernel_rfl) (by simp) ?_; intro i' hi'; simp only [List.mem_cons, List.not_mem_nil, or_false] at hi'
  subst hi'
  refine ⟨_, _, _, rfl, by rfl, by rfl, MK.callP (toDessin_fn n b w) (by rfl) (by simp [Sc, sc_pl, sc_ds, pl_ne, ds_ne]), ?_⟩
  refine WA.all [3] (by kernel_rfl) (by simp) ?_; intro i' hi'; simp only [List.mem_cons, List.not_mem_nil, or_false] at hi'
  subst hi'
  refine ⟨_, _, _, rfl, by rfl, by rfl, MK.callP (toPlaces_fn p) (by rfl) (by simp [Sc, sc_pl, sc_ds, pl_ne, ds_ne]), ?_⟩
  refine WA.all [4] (by kernel_rfl) (by simp) ?_; intro i' hi'; simp only [List.mem_cons, List.not_mem_nil, or_false] at hi'
  subst hi'
  refine ⟨_, _, _, rfl, by rfl, by rfl, MK.callP (h1) (by rfl) (by simp [Sc, sc_pl, sc_ds, pl_ne, ds_ne]), ?_⟩
  refine WA.move 5 (by rfl) (by first | exact .inl rfl | exact .inr rfl) (by kernel_rfl) (by kernel_rfl) (by rfl) (by rfl) ?_
  refine WA.extract 6 (by rfl) rfl (by rfl) (by rfl) (by kernel_rfl) (by kernel_rfl) (by rfl) (by rfl) ?_
  refine WA.extract 7 (by rfl) rfl (by rfl) (by rfl) (by kernel_rfl) (by kernel_rfl) (by rfl) (by rfl) ?_
  refine WA.move 8 (by rfl) (by first | exact .inl rfl | exact .inr rfl) (by kernel_rfl) (by kernel_rfl) (by rfl) (by rfl) ?_
  refine WA.move 9 (by rfl) (by first | exact .inl rfl | exact .inr rfl) (by kernel_rfl) (by kernel_rfl) (by rfl) (by rfl) ?_
  refine WA.end rfl (by kernel_rfl) (noPan ?_)
  refine WP.seq ?_
  refine WP.da (by kernel_rfl) 10 (by kernel_rfl) ?_
  refine WA.takes T false tok [0, 2] (f' := 8) (by kernel_rfl) (by rfl) (by rfl) (by rfl) (by first | trivial | (simp only [Int.toNat_natCast, addrAt0, List.nil_append, List.cons_append, List.append_nil, AllP, plE, InR, Root.holds, Root.readL] <;> and_intros <;> first | omega | assumption | (show _ ≤ _; omega) | (show _ < _; omega) | (show _ ≠ _; omega) | exact rfl | trivial | exact pl_ds _ _ _ | exact pl_prI _ _ | exact pl_prU _ _ | exact fun _ _ => pl_prU _ _ | exact fun _ _ _ _ => pl_prU _ _ | exact pl_prv _ | exact fun _ _ => pl_prI _ _ | exact fun _ _ => pl_prv _ | exact pl_st3 trivial (pl_pl _) (pl_pl _) | exact fun _ _ => trivial | exact fun i h => sc_ds _ _ _ _ i h)) (by rfl) (by rfl) ?_
  refine WA.all [1] (by kernel_rfl) (by simp) ?_; intro i' hi'; simp only [List.mem_cons, List.not_mem_nil, or_false] at hi'
  subst hi'
  refine ⟨_, _, _, rfl, by rfl, by rfl, MK.callP (toDessin_fn n b w) (by rfl) (by simp [Sc, sc_pl, sc_ds, pl_ne, ds_ne]), ?_⟩
  refine WA.all [3] (by kernel_rfl) (by simp) ?_; intro i' hi'; simp only [List.mem_cons, List.not_mem_nil, or_false] at hi'
  subst hi'
  refine ⟨_, _, _, rfl, by rfl, by rfl, MK.callP (toPlaces_fn p) (by rfl) (by simp [Sc, sc_pl, sc_ds, pl_ne, ds_ne]), ?_⟩
  refine WA.all [4] (by kernel_rfl) (by simp) ?_; intro i' hi'; simp only [List.mem_cons, List.not_mem_nil, or_false] at hi'
  subst hi'
  refine ⟨_, _, _, rfl, by rfl, by rfl, MK.callP (h2) (by rfl) (by simp [Sc, sc_pl, sc_ds, pl_ne, ds_ne]), ?_⟩
  refine WA.move 5 (by rfl) (by first | exact .inl rfl | exact .inr rfl) (by kernel_rfl) (by kernel_rfl) (by rfl) (by rfl) ?_
  refine WA.extract 6 (by rfl) rfl (by rfl) (by rfl) (by kernel_rfl) (by kernel_rfl) (by rfl) (by rfl) ?_
  refine WA.extract 7 (by rfl) rfl (by rfl) (by rfl) (by kernel_rfl) (by kernel_rfl) (by rfl) (by rfl) ?_
  refine WA.move 8 (by rfl) (by first | exact .inl rfl | exact .inr rfl) (by kernel_rfl) (by kernel_rfl) (by rfl) (by rfl) ?_
  refine WA.move 9 (by rfl) (by first | exact .inl rfl | exact .inr rfl) (by kernel_rfl) (by kernel_rfl) (by rfl) (by rfl) ?_
  refine WA.end rfl (by kernel_rfl) (noPan ?_)
  refine WP.seq ?_
  refine WP.rw ?_
  refine WPL.run T false 3 tok (by rfl) (by first | trivial | (simp only [Int.toNat_natCast, addrAt0, List.nil_append, List.cons_append, List.append_nil, AllP, plE, InR, Root.holds, Root.readL] <;> and_intros <;> first | omega | assumption | (show _ ≤ _; omega) | (show _ < _; omega) | (show _ ≠ _; omega) | exact rfl | trivial | exact pl_ds _ _ _ | exact pl_prI _ _ | exact pl_prU _ _ | exact fun _ _ => pl_prU _ _ | exact fun _ _ _ _ => pl_prU _ _ | exact pl_prv _ | exact fun _ _ => pl_prI _ _ | exact fun _ _ => pl_prv _ | exact pl_st3 trivial (pl_pl _) (pl_pl _) | exact fun _ _ => trivial | exact fun i h => sc_ds _ _ _ _ i h)) ?_
  rw [show (r == r) = true from by cases r <;> rfl]
  refine WPL.fin T false tok (by rfl) (by first | trivial | (simp only [Int.toNat_natCast, addrAt0, List.nil_append, List.cons_append, List.append_nil, AllP, plE, InR, Root.holds, Root.readL] <;> and_intros <;> first | omega | assumption | (show _ ≤ _; omega) | (show _ < _; omega) | (show _ ≠ _; omega) | exact rfl | trivial | exact pl_ds _ _ _ | exact pl_prI _ _ | exact pl_prU _ _ | exact fun _ _ => pl_prU _ _ | exact fun _ _ _ _ => pl_prU _ _ | exact pl_prv _ | exact fun _ _ => pl_prI _ _ | exact fun _ _ => pl_prv _ | exact pl_st3 trivial (pl_pl _) (pl_pl _) | exact fun _ _ => trivial | exact fun i h => sc_ds _ _ _ _ i h)) ?_
  refine WP.cond (by rfl) (fun h => ?_) (fun h => WP.skip ?_)
  · simp at h
  · refine WP.rs T false tok (by rfl) (by first | trivial | (simp only [Int.toNat_natCast, addrAt0, List.nil_append, List.cons_append, List.append_nil, AllP, plE, InR, Root.holds, Root.readL] <;> and_intros <;> first | omega | assumption | (show _ ≤ _; omega) | (show _ < _; omega) | (show _ ≠ _; omega) | exact rfl | trivial | exact pl_ds _ _ _ | exact pl_prI _ _ | exact pl_prU _ _ | exact fun _ _ => pl_prU _ _ | exact fun _ _ _ _ => pl_prU _ _ | exact pl_prv _ | exact fun _ _ => pl_prI _ _ | exact fun _ _ => pl_prv _ | exact pl_st3 trivial (pl_pl _) (pl_pl _) | exact fun _ _ => trivial | exact fun i h => sc_ds _ _ _ _ i h)) ?_
    exact WP.ret (Ends.val (by rfl) (by first | trivial | (simp only [Int.toNat_natCast, addrAt0, List.nil_append, List.cons_append, List.append_nil, AllP, plE, InR, Root.holds, Root.readL] <;> and_intros <;> first | omega | assumption | (show _ ≤ _; omega) | (show _ < _; omega) | (show _ ≠ _; omega) | exact rfl | trivial | exact pl_ds _ _ _ | exact pl_prI _ _ | exact pl_prU _ _ | exact fun _ _ => pl_prU _ _ | exact fun _ _ _ _ => pl_prU _ _ | exact pl_prv _ | exact fun _ _ => pl_prI _ _ | exact fun _ _ => pl_prv _ | exact pl_st3 trivial (pl_pl _) (pl_pl _) | exact fun _ _ => trivial | exact fun i h => sc_ds _ _ _ _ i h)) (by rfl) (by trivial))

end Go.Proofs.Ytokhjhkicledmaa
