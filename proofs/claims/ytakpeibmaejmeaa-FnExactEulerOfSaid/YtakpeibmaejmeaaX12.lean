/- Even dessins; the Face permutation: both sides; the laws. -/
import Derived.Test.YtakpeibmaejmeaaX11
import Derived.Test.YtakpeibmaejmeaaX9
import Derived.Test.YtakpeibmaejmeaaX4
namespace Go.Proofs.Ytakpeibmaejmeaa
open Go.RowKit DM
set_option linter.unusedSimpArgs false
set_option linter.unusedVariables false
set_option maxRecDepth 100000
set_option maxHeartbeats 1000000

/-- A result behind the question whether it is a dessin. -/
noncomputable def desR (n : Int) (b w : Nat → Nat) (yes no : Dat) : Dat := bif desB n b w then yes else no

noncomputable def evenR (n : Int) (b w : Nat → Nat) : Dat := desR n b w (t2 (.b (decide (signV b n.toNat = 1) && decide (signV w n.toNat = 1))) (.i .i64 0)) (t2 (.b false) (.i .i64 1))
theorem evenR_form (n : Int) (b w : Nat → Nat) : ∃ r c, evenR n b w = t2 (.b r) (.i .i64 c) := by
  unfold evenR desR
  cases desB n b w with
  | true => exact ⟨_, _, rfl⟩
  | false => exact ⟨_, _, rfl⟩

/-! ### Faces -/
theorem Perm.then {N : Nat} {p q : Nat → Nat} (hp : Perm N p) (hq : Perm N q) : ∀ i, i < N → fillF (fun i => q (p i)) N i < N := fun i hi => by
  unfold fillF; rw [if_pos hi]; exact hq.lt _ (hp.lt _ hi)

def faceF (N : Nat) (b w : Nat → Nat) : Nat → Nat := backTo (fillF (fun i => w (b i)) N) N

theorem face_fn (N : Nat) (b w : Nat → Nat) (hD : Des N b w) : FnP Try.prog 81 [ds_ N b w] (pl (faceF N b w)) := by
  refine FnS.into T tok Try.func81 (by rfl) rfl rfl rfl (by simp) ?_
  refine WP.rs T false tok (by rfl) (by first | trivial | (simp only [Int.toNat_natCast, addrAt0, List.nil_append, List.cons_append, List.append_nil, AllP, plE, InR, Root.holds, Root.readL] <;> and_intros <;> first | omega | assumption | (show _ ≤ _; omega) | (show _ < _; omega) | (show _ ≠ _; omega) | exact rfl | trivial | exact pl_ds _ _ _ | exact pl_prI _ _ | exact pl_prv _ | exact fun _ _ => pl_prI _ _ | exact fun _ _ => pl_prv _ | exact pl_st3 trivial (pl_pl _) (pl_pl _) | exact fun _ _ => trivial)) ?_
  refine WP.seq ?_
  refine WP.dt (T := T) 10 0 ?_
  refine HW.run false 6 tok (by rfl) (by first | trivial | (simp only [Int.toNat_natCast, addrAt0, List.nil_append, List.cons_append, List.append_nil, AllP, plE, InR, Root.holds, Root.readL] <;> and_intros <;> first | omega | assumption | (show _ ≤ _; omega) | (show _ < _; omega) | (show _ ≠ _; omega) | exact rfl | trivial | exact pl_ds _ _ _ | exact pl_prI _ _ | exact pl_prv _ | exact fun _ _ => pl_prI _ _ | exact fun _ _ => pl_prv _ | exact pl_st3 trivial (pl_pl _) (pl_pl _) | exact fun _ _ => trivial)) ?_
  refine HW.call [] (then_fn b w N hD.le hD.pb.lt) (by rfl) (by rfl) trivial (by repeat (first | exact trivial | (refine ArgsR.cons ?_ (by rfl) ?_) | exact (show _ = _ ∧ _ from ⟨rfl, by first | trivial | exact sc_pl _ _ | exact sc_ds _ _ _ _⟩) | exact (show _ = _ from rfl))) (by rfl) (by simp [Sc, sc_pl, sc_ds]) (sc_pl _ _) ?_
  refine HW.run false 2 tok (by rfl) (by first | trivial | (simp only [Int.toNat_natCast, addrAt0, List.nil_append, List.cons_append, List.append_nil, AllP, plE, InR, Root.holds, Root.readL] <;> and_intros <;> first | omega | assumption | (show _ ≤ _; omega) | (show _ < _; omega) | (show _ ≠ _; omega) | exact rfl | trivial | exact pl_ds _ _ _ | exact pl_prI _ _ | exact pl_prv _ | exact fun _ _ => pl_prI _ _ | exact fun _ _ => pl_prv _ | exact pl_st3 trivial (pl_pl _) (pl_pl _) | exact fun _ _ => trivial)) ?_
  refine HW.call [] (back_fn _ N hD.le (hD.pb.then hD.pw)) (by rfl) (by rfl) trivial (by repeat (first | exact trivial | (refine ArgsR.cons ?_ (by rfl) ?_) | exact (show _ = _ ∧ _ from ⟨rfl, by first | trivial | exact sc_pl _ _ | exact sc_ds _ _ _ _⟩) | exact (show _ = _ from rfl))) (by rfl) (by simp [Sc, sc_pl, sc_ds]) (sc_pl _ _) ?_
  refine HW.fin tok (by kernel_rfl) 10 0 (by rfl) (by kernel_rfl) (by kernel_rfl) (by kernel_rfl) (by rfl) (by rfl) rfl rfl ?_
  refine WPL.fin T false tok (by rfl) (by first | trivial | (simp only [Int.toNat_natCast, addrAt0, List.nil_append, List.cons_append, List.append_nil, AllP, plE, InR, Root.holds, Root.readL] <;> and_intros <;> first | omega | assumption | (show _ ≤ _; omega) | (show _ < _; omega) | (show _ ≠ _; omega) | exact rfl | trivial | exact pl_ds _ _ _ | exact pl_prI _ _ | exact pl_prv _ | exact fun _ _ => pl_prI _ _ | exact fun _ _ => pl_prv _ | exact pl_st3 trivial (pl_pl _) (pl_pl _) | exact fun _ _ => trivial)) ?_
  exact WP.ret (Ends.val (by rfl) (by first | trivial | (simp only [Int.toNat_natCast, addrAt0, List.nil_append, List.cons_append, List.append_nil, AllP, plE, InR, Root.holds, Root.readL] <;> and_intros <;> first | omega | assumption | (show _ ≤ _; omega) | (show _ < _; omega) | (show _ ≠ _; omega) | exact rfl | trivial | exact pl_ds _ _ _ | exact pl_prI _ _ | exact pl_prv _ | exact fun _ _ => pl_prI _ _ | exact fun _ _ => pl_prv _ | exact pl_st3 trivial (pl_pl _) (pl_pl _) | exact fun _ _ => trivial)) (by rfl) (by exact sc_pl _ _))

theorem l01Face_fn (N : Nat) (b w : Nat → Nat) (hD : Des N b w) : FnP Try.prog 82 [ds_ N b w] (pl (faceF N b w)) := by
  refine FnS.into T tok Try.func82 (by rfl) rfl rfl rfl (by simp) ?_
  refine WP.rs T false tok (by rfl) (by first | trivial | (simp only [Int.toNat_natCast, addrAt0, List.nil_append, List.cons_append, List.append_nil, AllP, plE, InR, Root.holds, Root.readL] <;> and_intros <;> first | omega | assumption | (show _ ≤ _; omega) | (show _ < _; omega) | (show _ ≠ _; omega) | exact rfl | trivial | exact pl_ds _ _ _ | exact pl_prI _ _ | exact pl_prv _ | exact fun _ _ => pl_prI _ _ | exact fun _ _ => pl_prv _ | exact pl_st3 trivial (pl_pl _) (pl_pl _) | exact fun _ _ => trivial)) ?_
  refine WP.seq ?_
  refine WP.dt (T := T) 10 0 ?_
  refine HW.run false 6 tok (by rfl) (by first | trivial | (simp only [Int.toNat_natCast, addrAt0, List.nil_append, List.cons_append, List.append_nil, AllP, plE, InR, Root.holds, Root.readL] <;> and_intros <;> first | omega | assumption | (show _ ≤ _; omega) | (show _ < _; omega) | (show _ ≠ _; omega) | exact rfl | trivial | exact pl_ds _ _ _ | exact pl_prI _ _ | exact pl_prv _ | exact fun _ _ => pl_prI _ _ | exact fun _ _ => pl_prv _ | exact pl_st3 trivial (pl_pl _) (pl_pl _) | exact fun _ _ => trivial)) ?_
  refine HW.call [] (l01Then_fn b w N hD.le hD.pb.lt) (by rfl) (by rfl) trivial (by repeat (first | exact trivial | (refine ArgsR.cons ?_ (by rfl) ?_) | exact (show _ = _ ∧ _ from ⟨rfl, by first | trivial | exact sc_pl _ _ | exact sc_ds _ _ _ _⟩) | exact (show _ = _ from rfl))) (by rfl) (by simp [Sc, sc_pl, sc_ds]) (sc_pl _ _) ?_
  refine HW.run false 2 tok (by rfl) (by first | trivial | (simp only [Int.toNat_natCast, addrAt0, List.nil_append, List.cons_append, List.append_nil, AllP, plE, InR, Root.holds, Root.readL] <;> and_intros <;> first | omega | assumption | (show _ ≤ _; omega) | (show _ < _; omega) | (show _ ≠ _; omega) | exact rfl | trivial | exact pl_ds _ _ _ | exact pl_prI _ _ | exact pl_prv _ | exact fun _ _ => pl_prI _ _ | exact fun _ _ => pl_prv _ | exact pl_st3 trivial (pl_pl _) (pl_pl _) | exact fun _ _ => trivial)) ?_
  refine HW.call [] (l01Back_fn _ N hD.le (hD.pb.then hD.pw)) (by rfl) (by rfl) trivial (by repeat (first | exact trivial | (refine ArgsR.cons ?_ (by rfl) ?_) | exact (show _ = _ ∧ _ from ⟨rfl, by first | trivial | exact sc_pl _ _ | exact sc_ds _ _ _ _⟩) | exact (show _ = _ from rfl))) (by rfl) (by simp [Sc, sc_pl, sc_ds]) (sc_pl _ _) ?_
  refine HW.fin tok (by kernel_rfl) 10 0 (by rfl) (by kernel_rfl) (by kernel_rfl) (by kernel_rfl) (by rfl) (by rfl) rfl rfl ?_
  refine WPL.fin T false tok (by rfl) (by first | trivial | (simp only [Int.toNat_natCast, addrAt0, List.nil_append, List.cons_append, List.append_nil, AllP, plE, InR, Root.holds, Root.readL] <;> and_intros <;> first | omega | assumption | (show _ ≤ _; omega) | (show _ < _; omega) | (show _ ≠ _; omega) | exact rfl | trivial | exact pl_ds _ _ _ | exact pl_prI _ _ | exact pl_prv _ | exact fun _ _ => pl_prI _ _ | exact fun _ _ => pl_prv _ | exact pl_st3 trivial (pl_pl _) (pl_pl _) | exact fun _ _ => trivial)) ?_
  exact WP.ret (Ends.val (by rfl) (by first | trivial | (simp only [Int.toNat_natCast, addrAt0, List.nil_append, List.cons_append, List.append_nil, AllP, plE, InR, Root.holds, Root.readL] <;> and_intros <;> first | omega | assumption | (show _ ≤ _; omega) | (show _ < _; omega) | (show _ ≠ _; omega) | exact rfl | trivial | exact pl_ds _ _ _ | exact pl_prI _ _ | exact pl_prv _ | exact fun _ _ => pl_prI _ _ | exact fun _ _ => pl_prv _ | exact pl_st3 trivial (pl_pl _) (pl_pl _) | exact fun _ _ => trivial)) (by rfl) (by exact sc_pl _ _))

noncomputable def faceR (n : Int) (b w : Nat → Nat) : Dat := desR n b w (t2 (pl (faceF n.toNat b w)) (.i .i64 0)) (t2 (pl fun _ => 0) (.i .i64 1))
theorem faceR_form (n : Int) (b w : Nat → Nat) : ∃ r c, faceR n b w = t2 (pl r) (.i .i64 c) := by
  unfold faceR desR
  cases desB n b w with
  | true => exact ⟨_, _, rfl⟩
  | false => exact ⟨_, _, rfl⟩

end Go.Proofs.Ytakpeibmaejmeaa
