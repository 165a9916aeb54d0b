import Derived.Test.YtokhjhkicledmaaX10
import Derived.Test.YtokhjhkicledmaaX9
import Derived.Test.YtokhjhkicledmaaX4
/- Even dessins; the Face permutation: both sides; the laws. -/
namespace Go.Proofs.Ytokhjhkicledmaa
open Go.RowKit DM
set_option linter.unusedSimpArgs false
set_option linter.unusedVariables false
set_option maxRecDepth 100000
set_option maxHeartbeats 1000000

/-! ### Faces -/
theorem Perm.then {N : Nat} {p q : Nat → Nat} (hp : Perm N p) (hq : Perm N q) : ∀ i, i < N → fillF (fun i => q (p i)) N i < N := fun i hi => by
  unfold fillF; rw [if_pos hi]; exact hq.lt _ (hp.lt _ hi)

def faceF (N : Nat) (b w : Nat → Nat) : Nat → Nat := backTo (fillF (fun i => w (b i)) N) N

theorem face_fn (N : Nat) (b w : Nat → Nat) (hD : Des N b w) : FnP Try.prog 59 [ds_ N b w] (pl (faceF N b w)) := by
  refine FnS.into T tok Try.func59 (by rfl) rfl rfl rfl (by simp) ?_
  refine WP.rs T false tok (by rfl) (by exact byObl) ?_
  refine WP.seq ?_
  refine WP.dt (T := T) 10 0 ?_
  refine HW.run false 6 tok (by rfl) (by exact byObl) ?_
  refine HW.call [] (then_fn b w N hD.le hD.pb.lt) (by rfl) (by rfl) trivial (by exact byArgs) (by rfl) (by simp [Sc, sc_pl, sc_ds]) (sc_pl _ _) ?_
  refine HW.run false 2 tok (by rfl) (by exact byObl) ?_
  refine HW.call [] (back_fn _ N hD.le (hD.pb.then hD.pw)) (by rfl) (by rfl) trivial (by exact byArgs) (by rfl) (by simp [Sc, sc_pl, sc_ds]) (sc_pl _ _) ?_
  refine HW.fin tok (by kernel_rfl) 10 0 (by rfl) (by kernel_rfl) (by kernel_rfl) (by kernel_rfl) (by rfl) (by rfl) rfl rfl ?_
  refine WPL.fin T false tok (by rfl) (by exact byObl) ?_
  exact WP.ret (Ends.val (by rfl) (by exact byObl) (by rfl) (by exact sc_pl _ _))

theorem l01Face_fn (N : Nat) (b w : Nat → Nat) (hD : Des N b w) : FnP Try.prog 86 [ds_ N b w] (pl (faceF N b w)) := by
  refine FnS.into T tok Try.func86 (by rfl) rfl rfl rfl (by simp) ?_
  refine WP.rs T false tok (by rfl) (by exact byObl) ?_
  refine WP.seq ?_
  refine WP.dt (T := T) 10 0 ?_
  refine HW.run false 6 tok (by rfl) (by exact byObl) ?_
  refine HW.call [] (l01Then_fn b w N hD.le hD.pb.lt) (by rfl) (by rfl) trivial (by exact byArgs) (by rfl) (by simp [Sc, sc_pl, sc_ds]) (sc_pl _ _) ?_
  refine HW.run false 2 tok (by rfl) (by exact byObl) ?_
  refine HW.call [] (l01Back_fn _ N hD.le (hD.pb.then hD.pw)) (by rfl) (by rfl) trivial (by exact byArgs) (by rfl) (by simp [Sc, sc_pl, sc_ds]) (sc_pl _ _) ?_
  refine HW.fin tok (by kernel_rfl) 10 0 (by rfl) (by kernel_rfl) (by kernel_rfl) (by kernel_rfl) (by rfl) (by rfl) rfl rfl ?_
  refine WPL.fin T false tok (by rfl) (by exact byObl) ?_
  exact WP.ret (Ends.val (by rfl) (by exact byObl) (by rfl) (by exact sc_pl _ _))

end Go.Proofs.Ytokhjhkicledmaa
