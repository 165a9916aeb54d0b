import Derived.Test.YtaafldclbdlgfaaX8
import Derived.Test.YtaafldclbdlgfaaX4
/- What is a dessin: both sides. -/
namespace Go.Proofs.Ytaafldclbdlgfaa
open Go.RowKit DM
set_option linter.unusedSimpArgs false
set_option linter.unusedVariables false
set_option maxRecDepth 100000
set_option maxHeartbeats 1000000

/-- The first sixteen. -/
def lim (p : Nat → Nat) : Nat → Nat := fun i => if i < 16 then p i else 0
theorem lim_lt {p : Nat → Nat} (h : ∀ i, p i < 256) : ∀ i, lim p i < 256 := fun i => by unfold lim; split; exact h i; omega

theorem toDessin_fn (n : Int) (b w : Nat → Nat) : FnP Try.prog 9 [ds_ n b w] (ds_ n (lim b) (lim w)) := by
  refine FnS.into T tok Try.func9 (by rfl) rfl rfl rfl (by simp) ?_
  refine WP.rs T false tok (by rfl) (by exact byObl) ?_
  refine WP.rs T false tok (by rfl) (by exact byObl) ?_
  refine WP.rs T false tok (by rfl) (by exact byObl) ?_
  refine WP.rw ?_
  refine WPL.run T false 2 tok (by rfl) (by exact byObl) ?_
  refine WPL.call (toPlaces_fn b) (by rfl) (by rfl) (by rfl) (by simp [Sc, sc_pl, sc_ds, pl_ne, ds_ne]) ?_
  refine WPL.fin T false tok (by rfl) (by exact byObl) ?_
  refine WP.rw ?_
  refine WPL.run T false 2 tok (by rfl) (by exact byObl) ?_
  refine WPL.call (toPlaces_fn w) (by rfl) (by rfl) (by rfl) (by simp [Sc, sc_pl, sc_ds, pl_ne, ds_ne]) ?_
  refine WPL.fin T false tok (by rfl) (by exact byObl) ?_
  refine WP.mem (by simp only [upd, pl, dsf, cast1, Int.toNat_natCast, fup_u8, fup_b, fup_i64, dsf_up0, dsf_up1, dsf_up2]; rfl) ?_
  refine WP.rs T false tok (by rfl) (by exact byObl) ?_
  exact WP.ret (Ends.val (by rfl) (by exact byObl) (by exact dsf_of rfl rfl rfl fun _ => rfl) (by exact sc_ds _ _ _ _))

/-- Whether the numbers and the two arrays are a dessin. -/
noncomputable def desB (n : Int) (b w : Nat → Nat) : Bool := permB b n && (permB w n && decide (((bfs b w).length : Int) = n))

/-- What a dessin is. -/
structure Des (N : Nat) (b w : Nat → Nat) : Prop where
  pos : 1 ≤ N
  le : N ≤ 16
  pb : Perm N b
  pw : Perm N w
  all : (bfs b w).length = N

theorem des_of_B {n : Int} {b w : Nat → Nat} (h : desB n b w = true) : ∃ N : Nat, n = N ∧ Des N b w := by
  unfold desB at h
  simp only [Bool.and_eq_true, decide_eq_true_eq] at h
  obtain ⟨N, rfl, h1, h2, h3⟩ := perm_of_B h.1
  obtain ⟨N', e, _, _, h3'⟩ := perm_of_B h.2.1
  have : N' = N := by omega
  subst this
  exact ⟨N', rfl, h1, h2, h3, h3', by have := h.2.2; omega⟩

theorem l01Is_fn (n : Int) (b w : Nat → Nat) (hb : ∀ i, b i < 256) (hw : ∀ i, w i < 256) : FnP Try.prog 36 [ds_ n b w] (.b (desB n b w)) := by
  refine FnS.into T tok Try.func36 (by rfl) rfl rfl rfl (by simp) ?_
  refine WP.rs T false tok (by rfl) (by exact byObl) ?_
  cases h1 : permB b n
  · have e : desB n b w = false := by unfold desB; rw [h1]; rfl
    refine WP.rw ?_
    refine WPL.run T false 4 tok (by rfl) (by exact byObl) ?_
    refine WPL.call (h1 ▸ l01Perm_fn b hb n) (by rfl) (by rfl) (by rfl) (by simp [Sc, sc_pl, sc_ds, pl_ne, ds_ne]) ?_
    refine WPL.fin T false tok (by rfl) (by exact byObl) ?_
    rw [e]
    exact WP.ret (Ends.val (by rfl) (by exact byObl) (by rfl) (by trivial))
  cases h2 : permB w n
  · have e : desB n b w = false := by unfold desB; rw [h1, h2]; rfl
    refine WP.rw ?_
    refine WPL.run T false 4 tok (by rfl) (by exact byObl) ?_
    refine WPL.call (h1 ▸ l01Perm_fn b hb n) (by rfl) (by rfl) (by rfl) (by simp [Sc, sc_pl, sc_ds, pl_ne, ds_ne]) ?_
    refine WPL.run T false 5 tok (by rfl) (by exact byObl) ?_
    refine WPL.call (h2 ▸ l01Perm_fn w hw n) (by rfl) (by rfl) (by rfl) (by simp [Sc, sc_pl, sc_ds, pl_ne, ds_ne]) ?_
    refine WPL.fin T false tok (by rfl) (by exact byObl) ?_
    rw [e]
    exact WP.ret (Ends.val (by rfl) (by exact byObl) (by rfl) (by trivial))
  have e : desB n b w = decide (((bfs b w).length : Int) = n) := by unfold desB; rw [h1, h2]; rfl
  obtain ⟨N, rfl, g1, g2, hP⟩ := perm_of_B h1
  obtain ⟨N', eN, _, _, hP'⟩ := perm_of_B h2
  obtain rfl : N = N' := by omega
  refine WP.rw ?_
  refine WPL.run T false 4 tok (by rfl) (by exact byObl) ?_
  refine WPL.call (h1 ▸ l01Perm_fn b hb N) (by rfl) (by rfl) (by rfl) (by simp [Sc, sc_pl, sc_ds, pl_ne, ds_ne]) ?_
  refine WPL.run T false 5 tok (by rfl) (by exact byObl) ?_
  refine WPL.call (h2 ▸ l01Perm_fn w hw N) (by rfl) (by rfl) (by rfl) (by simp [Sc, sc_pl, sc_ds, pl_ne, ds_ne]) ?_
  refine WPL.run T false 8 tok (by rfl) (by exact byObl) ?_
  refine WPL.call (l01Connected_fn b w N g1 g2 hP.lt hP'.lt) (by rfl) (by rfl) (by rfl) (by simp [Sc, sc_pl, sc_ds, pl_ne, ds_ne]) ?_
  refine WPL.fin T false tok (by rfl) (by exact byObl) ?_
  rw [e]
  exact WP.ret (Ends.val (by rfl) (by exact byObl) (by rfl) (by trivial))

theorem implIsDessin_fn (n : Int) (b w : Nat → Nat) (hb : ∀ i, b i < 256) (hw : ∀ i, w i < 256) : FnP Try.prog 30 [ds_ n b w] (.b (desB n b w)) := by
  refine FnS.into T tok Try.func30 (by rfl) rfl rfl rfl (by simp) ?_
  refine WP.rs T false tok (by rfl) (by exact byObl) ?_
  refine WP.rs T false tok (by rfl) (by exact byObl) ?_
  cases h1 : permB b n
  · have e : desB n b w = false := by unfold desB; rw [h1]; rfl
    refine WP.rw ?_
    refine WPL.run T false 3 tok (by rfl) (by exact byObl) ?_
    refine WPL.call (h1 ▸ IsPermutation_fn b hb n) (by rfl) (by rfl) (by rfl) (by simp [Sc, sc_pl, sc_ds, pl_ne, ds_ne]) ?_
    refine WPL.fin T false tok (by rfl) (by exact byObl) ?_
    rw [e]
    exact WP.ret (Ends.val (by rfl) (by exact byObl) (by rfl) (by trivial))
  cases h2 : permB w n
  · have e : desB n b w = false := by unfold desB; rw [h1, h2]; rfl
    refine WP.rw ?_
    refine WPL.run T false 3 tok (by rfl) (by exact byObl) ?_
    refine WPL.call (h1 ▸ IsPermutation_fn b hb n) (by rfl) (by rfl) (by rfl) (by simp [Sc, sc_pl, sc_ds, pl_ne, ds_ne]) ?_
    refine WPL.run T false 4 tok (by rfl) (by exact byObl) ?_
    refine WPL.call (h2 ▸ IsPermutation_fn w hw n) (by rfl) (by rfl) (by rfl) (by simp [Sc, sc_pl, sc_ds, pl_ne, ds_ne]) ?_
    refine WPL.fin T false tok (by rfl) (by exact byObl) ?_
    rw [e]
    exact WP.ret (Ends.val (by rfl) (by exact byObl) (by rfl) (by trivial))
  have e : desB n b w = decide (((bfs b w).length : Int) = n) := by unfold desB; rw [h1, h2]; rfl
  obtain ⟨N, rfl, g1, g2, hP⟩ := perm_of_B h1
  obtain ⟨N', eN, _, _, hP'⟩ := perm_of_B h2
  obtain rfl : N = N' := by omega
  refine WP.rw ?_
  refine WPL.run T false 3 tok (by rfl) (by exact byObl) ?_
  refine WPL.call (h1 ▸ IsPermutation_fn b hb N) (by rfl) (by rfl) (by rfl) (by simp [Sc, sc_pl, sc_ds, pl_ne, ds_ne]) ?_
  refine WPL.run T false 4 tok (by rfl) (by exact byObl) ?_
  refine WPL.call (h2 ▸ IsPermutation_fn w hw N) (by rfl) (by rfl) (by rfl) (by simp [Sc, sc_pl, sc_ds, pl_ne, ds_ne]) ?_
  refine WPL.run T false 8 tok (by rfl) (by exact byObl) ?_
  refine WPL.callR [1] (reached_fn b w N g1 g2 hP.lt hP'.lt) (by rfl) (LeAll.cons (by rfl) (by first | with_reducible exact Root.Le.refl _ | with_reducible exact le_dead | (exact le_frz (Nat.le_refl _) (fun j hj => by rcases j with _ | _ | j <;> first | rfl | omega)) | exact byLeq) (by exact byCon) (trivial)) (by exact byArgs) (by rfl) (by rfl) (by simp [Sc, sc_pl, sc_ds]) ?_
  refine WPL.fin T false tok (by rfl) (by exact byObl) ?_
  rw [e]
  exact WP.ret (Ends.val (by rfl) (by exact byObl) (by rfl) (by trivial))

end Go.Proofs.Ytaafldclbdlgfaa
