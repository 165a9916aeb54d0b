import Derived.Test.YtokhjhkicledmaaX86
/- Groups: the laws of the order, of membership and of regularity. -/
namespace Go.Proofs.Ytokhjhkicledmaa
open Go.RowKit DM
set_option linter.unusedSimpArgs false
set_option linter.unusedVariables false
set_option maxRecDepth 100000
set_option maxHeartbeats 1000000

theorem goR_form (n : Int) (b w : Nat → Nat) : ∃ r c, goR n b w = t2 (.i .i64 r) (.i .i64 c) := by
  unfold goR
  cases desB n b w with
  | true => exact ⟨_, _, rfl⟩
  | false => exact ⟨_, _, rfl⟩

theorem lim_z (p : Nat → Nat) : ∀ i, 16 ≤ i → lim p i = 0 := fun i hi => by unfold lim; rw [if_neg (by omega)]

theorem law_GroupOrder (n : Int) (b w : Nat → Nat) (_hn : -9223372036854775808 ≤ n ∧ n ≤ 9223372036854775807) (hb : ∀ i, b i < 256) (hw : ∀ i, w i < 256) : FnP Try.prog 4 [ds_ n b w] (.b true) := by
  obtain ⟨r, c, e⟩ := goR_form n (lim b) (lim w)
  have h1 := specGroupOrder_fn n (lim b) (lim w) (lim_lt hb) (lim_lt hw) (lim_z b) (lim_z w)
  have h2 := implGroupOrder_fn n (lim b) (lim w) (lim_lt hb) (lim_lt hw) (lim_z b) (lim_z w)
  rw [e] at h1 h2
  refine FnS.into T tok Try.func4 (by rfl) rfl rfl rfl (by simp) ?_
  refine WP.rs T false tok (by rfl) (by first | trivial | (simp only [Int.toNat_natCast, addrAt0, List.nil_append, List.cons_append, List.append_nil, AllP, plE, InR, Root.holds, Root.readL] <;> and_intros <;> first | omega | assumption | (show _ ≤ _; omega) | (show _ < _; omega) | (show _ ≠ _; omega) | exact rfl | trivial | exact pl_ds _ _ _ | exact pl_prI _ _ | exact pl_prU _ _ | exact fun _ _ => pl_prU _ _ | exact fun _ _ _ _ => pl_prU _ _ | exact pl_prv _ | exact fun _ _ => pl_prI _ _ | exact fun _ _ => pl_prv _ | exact pl_st3 trivial (pl_pl _) (pl_pl _) | exact fun _ _ => trivial | exact fun i h => sc_ds _ _ _ _ i h)) ?_
  refine WP.rw ?_
  refine WPL.run T false 1 tok (by rfl) (by first | trivial | (simp only [Int.toNat_natCast, addrAt0, List.nil_append, List.cons_append, List.append_nil, AllP, plE, InR, Root.holds, Root.readL] <;> and_intros <;> first | omega | assumption | (show _ ≤ _; omega) | (show _ < _; omega) | (show _ ≠ _; omega) | exact rfl | trivial | exact pl_ds _ _ _ | exact pl_prI _ _ | exact pl_prU _ _ | exact fun _ _ => pl_prU _ _ | exact fun _ _ _ _ => pl_prU _ _ | exact pl_prv _ | exact fun _ _ => pl_prI _ _ | exact fun _ _ => pl_prv _ | exact pl_st3 trivial (pl_pl _) (pl_pl _) | exact fun _ _ => trivial | exact fun i h => sc_ds _ _ _ _ i h)) ?_
  refine WPL.call (toDessin_fn n b w) (by rfl) (by rfl) (by rfl) (by simp [Sc, sc_pl, sc_ds, pl_ne, ds_ne]) ?_
  refine WPL.call (h1) (by rfl) (by rfl) (by rfl) (by simp [Sc, sc_pl, sc_ds, pl_ne, ds_ne]) ?_
  refine WPL.fin T false tok (by rfl) (by first | trivial | (simp only [Int.toNat_natCast, addrAt0, List.nil_append, List.cons_append, List.append_nil, AllP, plE, InR, Root.holds, Root.readL] <;> and_intros <;> first | omega | assumption | (show _ ≤ _; omega) | (show _ < _; omega) | (show _ ≠ _; omega) | exact rfl | trivial | exact pl_ds _ _ _ | exact pl_prI _ _ | exact pl_prU _ _ | exact fun _ _ => pl_prU _ _ | exact fun _ _ _ _ => pl_prU _ _ | exact pl_prv _ | exact fun _ _ => pl_prI _ _ | exact fun _ _ => pl_prv _ | exact pl_st3 trivial (pl_pl _) (pl_pl _) | exact fun _ _ => trivial | exact fun i h => sc_ds _ _ _ _ i h)) ?_
  refine WP.rw ?_
  refine WPL.run T false 1 tok (by rfl) (by first | trivial | (simp only [Int.toNat_natCast, addrAt0, List.nil_append, List.cons_append, List.append_nil, AllP, plE, InR, Root.holds, Root.readL] <;> and_intros <;> first | omega | assumption | (show _ ≤ _; omega) | (show _ < _; omega) | (show _ ≠ _; omega) | exact rfl | trivial | exact pl_ds _ _ _ | exact pl_prI _ _ | exact pl_prU _ _ | exact fun _ _ => pl_prU _ _ | exact fun _ _ _ _ => pl_prU _ _ | exact pl_prv _ | exact fun _ _ => pl_prI _ _ | exact fun _ _ => pl_prv _ | exact pl_st3 trivial (pl_pl _) (pl_pl _) | exact fun _ _ => trivial | exact fun i h => sc_ds _ _ _ _ i h)) ?_
  refine WPL.call (toDessin_fn n b w) (by rfl) (by rfl) (by rfl) (by simp [Sc, sc_pl, sc_ds, pl_ne, ds_ne]) ?_
  refine WPL.call (h2) (by rfl) (by rfl) (by rfl) (by simp [Sc, sc_pl, sc_ds, pl_ne, ds_ne]) ?_
  refine WPL.fin T false tok (by rfl) (by first | trivial | (simp only [Int.toNat_natCast, addrAt0, List.nil_append, List.cons_append, List.append_nil, AllP, plE, InR, Root.holds, Root.readL] <;> and_intros <;> first | omega | assumption | (show _ ≤ _; omega) | (show _ < _; omega) | (show _ ≠ _; omega) | exact rfl | trivial | exact pl_ds _ _ _ | exact pl_prI _ _ | exact pl_prU _ _ | exact fun _ _ => pl_prU _ _ | exact fun _ _ _ _ => pl_prU _ _ | exact pl_prv _ | exact fun _ _ => pl_prI _ _ | exact fun _ _ => pl_prv _ | exact pl_st3 trivial (pl_pl _) (pl_pl _) | exact fun _ _ => trivial | exact fun i h => sc_ds _ _ _ _ i h)) ?_
  refine WP.seq ?_
  refine WP.rw ?_
  refine WPL.run T false 3 tok (by rfl) (by first | trivial | (simp only [Int.toNat_natCast, addrAt0, List.nil_append, List.cons_append, List.append_nil, AllP, plE, InR, Root.holds, Root.readL] <;> and_intros <;> first | omega | assumption | (show _ ≤ _; omega) | (show _ < _; omega) | (show _ ≠ _; omega) | exact rfl | trivial | exact pl_ds _ _ _ | exact pl_prI _ _ | exact pl_prU _ _ | exact fun _ _ => pl_prU _ _ | exact fun _ _ _ _ => pl_prU _ _ | exact pl_prv _ | exact fun _ _ => pl_prI _ _ | exact fun _ _ => pl_prv _ | exact pl_st3 trivial (pl_pl _) (pl_pl _) | exact fun _ _ => trivial | exact fun i h => sc_ds _ _ _ _ i h)) ?_
  rw [decide_eq_true (rfl : r = r)]
  refine WPL.fin T false tok (by rfl) (by first | trivial | (simp only [Int.toNat_natCast, addrAt0, List.nil_append, List.cons_append, List.append_nil, AllP, plE, InR, Root.holds, Root.readL] <;> and_intros <;> first | omega | assumption | (show _ ≤ _; omega) | (show _ < _; omega) | (show _ ≠ _; omega) | exact rfl | trivial | exact pl_ds _ _ _ | exact pl_prI _ _ | exact pl_prU _ _ | exact fun _ _ => pl_prU _ _ | exact fun _ _ _ _ => pl_prU _ _ | exact pl_prv _ | exact fun _ _ => pl_prI _ _ | exact fun _ _ => pl_prv _ | exact pl_st3 trivial (pl_pl _) (pl_pl _) | exact fun _ _ => trivial | exact fun i h => sc_ds _ _ _ _ i h)) ?_
  refine WP.cond (by rfl) (fun h => ?_) (fun h => WP.skip ?_)
  · simp at h
  · refine WP.rs T false tok (by rfl) (by first | trivial | (simp only [Int.toNat_natCast, addrAt0, List.nil_append, List.cons_append, List.append_nil, AllP, plE, InR, Root.holds, Root.readL] <;> and_intros <;> first | omega | assumption | (show _ ≤ _; omega) | (show _ < _; omega) | (show _ ≠ _; omega) | exact rfl | trivial | exact pl_ds _ _ _ | exact pl_prI _ _ | exact pl_prU _ _ | exact fun _ _ => pl_prU _ _ | exact fun _ _ _ _ => pl_prU _ _ | exact pl_prv _ | exact fun _ _ => pl_prI _ _ | exact fun _ _ => pl_prv _ | exact pl_st3 trivial (pl_pl _) (pl_pl _) | exact fun _ _ => trivial | exact fun i h => sc_ds _ _ _ _ i h)) ?_
    exact WP.ret (Ends.val (by rfl) (by first | trivial | (simp only [Int.toNat_natCast, addrAt0, List.nil_append, List.cons_append, List.append_nil, AllP, plE, InR, Root.holds, Root.readL] <;> and_intros <;> first | omega | assumption | (show _ ≤ _; omega) | (show _ < _; omega) | (show _ ≠ _; omega) | exact rfl | trivial | exact pl_ds _ _ _ | exact pl_prI _ _ | exact pl_prU _ _ | exact fun _ _ => pl_prU _ _ | exact fun _ _ _ _ => pl_prU _ _ | exact pl_prv _ | exact fun _ _ => pl_prI _ _ | exact fun _ _ => pl_prv _ | exact pl_st3 trivial (pl_pl _) (pl_pl _) | exact fun _ _ => trivial | exact fun i h => sc_ds _ _ _ _ i h)) (by rfl) (by trivial))

end Go.Proofs.Ytokhjhkicledmaa
