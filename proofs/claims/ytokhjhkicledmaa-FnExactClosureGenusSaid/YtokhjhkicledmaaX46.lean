import Derived.Test.YtokhjhkicledmaaX42
import Derived.Test.YtokhjhkicledmaaX12
import Derived.Test.YtokhjhkicledmaaL3
/- Passports: both sides. -/
namespace Go.Proofs.Ytokhjhkicledmaa
open Go.RowKit DM
set_option linter.unusedSimpArgs false
set_option linter.unusedVariables false
set_option maxRecDepth 100000
set_option maxHeartbeats 1000000

theorem perm_face {N : Nat} {b w : Nat → Nat} (hD : Des N b w) : Perm N (faceF N b w) := by
  refine perm_back hD.le ⟨fun i hi => ?_, fun i j hi hj e => ?_⟩
  · simp only [fillF, if_pos hi]; exact hD.pw.lt _ (hD.pb.lt _ hi)
  · simp only [fillF, if_pos hi, if_pos hj] at e
    exact hD.pb.inj i j hi hj (hD.pw.inj _ _ (hD.pb.lt _ hi) (hD.pb.lt _ hj) e)

def pasL (N : Nat) (b w : Nat → Nat) : List (List Nat) := [tyN (cycs b N) N, tyN (cycs w N) N, tyN (cycs (faceF N b w) N) N]

theorem ty_len16 {N : Nat} (hN : N ≤ 16) {p : Nat → Nat} (hp : Perm N p) : (tyN (cycs p N) N).length ≤ 16 := by
  have h1 : (cycs p N).length ≤ N := cyTo_len p N
  rw [tyN_len (cycs_lens hN hp)]; omega

end Go.Proofs.Ytokhjhkicledmaa

/- Passports: the reference's side; the public functions; the law. -/
namespace Go.Proofs.Ytokhjhkicledmaa
open Go.RowKit DM
set_option linter.unusedSimpArgs false
set_option linter.unusedVariables false
set_option maxRecDepth 100000
set_option maxHeartbeats 1000000

theorem l01Passport_fn (N : Nat) (b w : Nat → Nat) (hD : Des N b w) : FnS Try.prog 57 [ds_ N b w] [] (fun r m' => r = .sl 0 0 3 1 ∧ m' = [.row 37 3 1 (rowsF (pasL N b w))]) := by
  have h1 := l01Type_fn b N hD.le hD.pb
  have h2 := l01Type_fn w N hD.le hD.pw
  have h3 := l01Type_fn (faceF N b w) N hD.le (perm_face hD)
  have h4 := l01Face_fn N b w hD
  have g1 := ty_len16 hD.le hD.pb
  have g2 := ty_len16 hD.le hD.pw
  have g3 := ty_len16 hD.le (perm_face hD)
  unfold pasL
  generalize tyN (cycs b N) N = A at *
  generalize tyN (cycs w N) N = B at *
  generalize tyN (cycs (faceF N b w) N) N = C at *
  refine FnS.intoN T tok Try.func57 (by rfl) rfl rfl rfl (by simp) ?_
  refine WP.rs T false tok (by rfl) (by exact byObl) ?_
  refine WP.seq ?_
  refine WP.da (by kernel_rfl) 17 (by kernel_rfl) ?_
  refine WA.takes T false tok [0, 1, 2, 3, 5, 6, 7, 8] (f' := 9) (by kernel_rfl) (by rfl) (by rfl) (by rfl) (by exact byObl) (by rfl) (by rfl) ?_
  refine WA.takes T false tok [10, 12, 13] (f' := 6) (by kernel_rfl) (by rfl) (by rfl) (by rfl) (by exact byObl) (by rfl) (by rfl) ?_
  refine WA.all [4] (by kernel_rfl) (by simp) ?_; intro i' hi'; simp only [List.mem_cons, List.not_mem_nil, or_false] at hi'
  subst hi'
  refine ⟨_, _, _, rfl, by rfl, by rfl, MK.call [] (.sl 1 0 A.length 1) (h1) (trivial) (by rfl) (by exact .inl rfl) (by rfl) (by exact byArgs) (by simp [Sc, sc_pl, sc_ds]) (by exact byAllc) (by exact rfl) (by exact bySc) (by rfl), ?_⟩
  refine WA.all [9] (by kernel_rfl) (by simp) ?_; intro i' hi'; simp only [List.mem_cons, List.not_mem_nil, or_false] at hi'
  subst hi'
  refine ⟨_, _, _, rfl, by rfl, by rfl, MK.call [] (.sl 2 0 B.length 1) (h2) (trivial) (by rfl) (by exact .inl rfl) (by rfl) (by exact byArgs) (by simp [Sc, sc_pl, sc_ds]) (by exact byAllc) (by exact rfl) (by exact bySc) (by rfl), ?_⟩
  refine WA.all [11] (by kernel_rfl) (by simp) ?_; intro i' hi'; simp only [List.mem_cons, List.not_mem_nil, or_false] at hi'
  subst hi'
  refine ⟨_, _, _, rfl, by rfl, by rfl, MK.callP (h4) (by rfl) (by simp [Sc, sc_pl, sc_ds, pl_ne, ds_ne]), ?_⟩
  refine WA.all [14] (by kernel_rfl) (by simp) ?_; intro i' hi'; simp only [List.mem_cons, List.not_mem_nil, or_false] at hi'
  subst hi'
  refine ⟨_, _, _, rfl, by rfl, by rfl, MK.call [] (.sl 3 0 C.length 1) (h3) (trivial) (by rfl) (by exact .inl rfl) (by rfl) (by exact byArgs) (by simp [Sc, sc_pl, sc_ds]) (by exact byAllc) (by exact rfl) (by exact bySc) (by rfl), ?_⟩
  refine WA.all [15] (by kernel_rfl) (by simp) ?_; intro i' hi'; simp only [List.mem_cons, List.not_mem_nil, or_false] at hi'
  subst hi'
  refine ⟨_, _, _, rfl, by rfl, by rfl, MK.of tok (wm := false) (by rfl) (by exact byObl) (by rfl) (by exact byObl), ?_⟩
  refine WA.move 16 (by rfl) (by first | exact .inl rfl | exact .inr rfl) (by kernel_rfl) (by kernel_rfl) (by rfl) (by rfl) ?_
  refine WA.tail (by rfl) (by rfl) (by kernel_rfl) ?_
  refine WPL.nil (noPan ?_)
  refine WP.ghost (Ghost.give 4 0 1 (by rfl) (by omega) (by rfl) rfl rfl (by rfl) (Nat.le_refl _)) ?_
  refine WP.ghost (Ghost.give 4 1 2 (by rfl) (by omega) (by rfl) rfl rfl (by rfl) (Nat.le_refl _)) ?_
  refine WP.ghost (Ghost.give 4 2 3 (by rfl) (by omega) (by rfl) rfl rfl (by rfl) (Nat.le_refl _)) ?_
  exact WP.ret (Ends.new [4] (by rfl) (by exact byObl) (LeAll.cons (by rfl) (by first | with_reducible exact Root.Le.refl _ | with_reducible exact le_dead | (exact le_row (Nat.le_refl _) (fun j hj => by rcases j with _ | _ | _ | j <;> first | rfl | omega)) | exact byLeq) (by exact byCon) (trivial)) rfl rfl (rfl) (sc_sl rfl))

theorem pas_len {N : Nat} {b w : Nat → Nat} (hD : Des N b w) (j : Nat) : ((pasL N b w).getD j []).length ≤ 16 := by
  have g1 := ty_len16 hD.le hD.pb
  have g2 := ty_len16 hD.le hD.pw
  have g3 := ty_len16 hD.le (perm_face hD)
  rcases j with _ | _ | _ | j
  · exact g1
  · exact g2
  · exact g3
  · exact Nat.zero_le _

end Go.Proofs.Ytokhjhkicledmaa
