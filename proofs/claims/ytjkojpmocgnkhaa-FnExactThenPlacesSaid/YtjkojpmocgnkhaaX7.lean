/- Permutations one after the other: both sides; the law. -/
import Derived.Test.YtjkojpmocgnkhaaX6
namespace Go.Proofs.Ytjkojpmocgnkhaa
open Go.RowKit DM
set_option linter.unusedSimpArgs false
set_option linter.unusedVariables false
set_option maxRecDepth 100000

noncomputable def thenR (p q : Nat → Nat) (n : Int) : Dat := bif permB p n && permB q n then t2 (pl (fillF (fun i => q (p i)) n.toNat)) (.i .i64 0) else t2 (pl fun _ => 0) (.i .i64 1)

theorem thenR_form (p q : Nat → Nat) (n : Int) : ∃ r c, thenR p q n = t2 (pl r) (.i .i64 c) := by
  unfold thenR
  cases permB p n && permB q n with
  | true => exact ⟨_, _, rfl⟩
  | false => exact ⟨_, _, rfl⟩

theorem specThen_fn (p q : Nat → Nat) (hp : ∀ i, p i < 256) (hq : ∀ i, q i < 256) (n : Int) : FnP Try.prog 34 [pl p, pl q, .i .i64 n] (thenR p q n) := by
  refine FnS.into T tok Try.func34 (by rfl) rfl rfl rfl (by simp) ?_
  refine WP.rs T false tok (by rfl) (by first | trivial | (simp only [Int.toNat_natCast, List.nil_append, List.cons_append, List.append_nil, AllP, plE, InR, Root.holds] <;> and_intros <;> first | omega | assumption | exact rfl | trivial | exact pl_ds _ _ _ | exact pl_st3 trivial (pl_pl _) (pl_pl _) | exact fun _ _ => trivial)) ?_
  refine WP.seq ?_
  cases hc : permB p n
  · have e : thenR p q n = t2 (pl fun _ => 0) (.i .i64 1) := by unfold thenR; rw [hc]; rfl
    refine WP.rw ?_
    refine WPL.run T false 2 tok (by rfl) (by first | trivial | (simp only [Int.toNat_natCast, List.nil_append, List.cons_append, List.append_nil, AllP, plE, InR, Root.holds] <;> and_intros <;> first | omega | assumption | exact rfl | trivial | exact pl_ds _ _ _ | exact pl_st3 trivial (pl_pl _) (pl_pl _) | exact fun _ _ => trivial)) ?_
    refine WPL.call (hc ▸ l01Perm_fn p hp n) (by rfl) (by rfl) (by rfl) (by simp [Sc, sc_pl, sc_ds, pl_ne, ds_ne]) ?_
    refine WPL.fin T false tok (by rfl) (by first | trivial | (simp only [Int.toNat_natCast, List.nil_append, List.cons_append, List.append_nil, AllP, plE, InR, Root.holds] <;> and_intros <;> first | omega | assumption | exact rfl | trivial | exact pl_ds _ _ _ | exact pl_st3 trivial (pl_pl _) (pl_pl _) | exact fun _ _ => trivial)) ?_
    refine WP.cond (by rfl) (fun h => ?_) (fun h => WP.skip ?_)
    · refine WP.rs T false tok (by rfl) (by first | trivial | (simp only [Int.toNat_natCast, List.nil_append, List.cons_append, List.append_nil, AllP, plE, InR, Root.holds] <;> and_intros <;> first | omega | assumption | exact rfl | trivial | exact pl_ds _ _ _ | exact pl_st3 trivial (pl_pl _) (pl_pl _) | exact fun _ _ => trivial)) ?_
      rw [e]
      exact WP.ret (Ends.val (by rfl) (by first | trivial | (simp only [Int.toNat_natCast, List.nil_append, List.cons_append, List.append_nil, AllP, plE, InR, Root.holds] <;> and_intros <;> first | omega | assumption | exact rfl | trivial | exact pl_ds _ _ _ | exact pl_st3 trivial (pl_pl _) (pl_pl _) | exact fun _ _ => trivial)) (by rfl) (by exact sc_t2 (sc_pl _ _) trivial))
    · cases h
  · cases hd : permB q n
    · have e : thenR p q n = t2 (pl fun _ => 0) (.i .i64 1) := by unfold thenR; rw [hc, hd]; rfl
      refine WP.rw ?_
      refine WPL.run T false 2 tok (by rfl) (by first | trivial | (simp only [Int.toNat_natCast, List.nil_append, List.cons_append, List.append_nil, AllP, plE, InR, Root.holds] <;> and_intros <;> first | omega | assumption | exact rfl | trivial | exact pl_ds _ _ _ | exact pl_st3 trivial (pl_pl _) (pl_pl _) | exact fun _ _ => trivial)) ?_
      refine WPL.call (hc ▸ l01Perm_fn p hp n) (by rfl) (by rfl) (by rfl) (by simp [Sc, sc_pl, sc_ds, pl_ne, ds_ne]) ?_
      refine WPL.run T false 4 tok (by rfl) (by first | trivial | (simp only [Int.toNat_natCast, List.nil_append, List.cons_append, List.append_nil, AllP, plE, InR, Root.holds] <;> and_intros <;> first | omega | assumption | exact rfl | trivial | exact pl_ds _ _ _ | exact pl_st3 trivial (pl_pl _) (pl_pl _) | exact fun _ _ => trivial)) ?_
      refine WPL.call (hd ▸ l01Perm_fn q hq n) (by rfl) (by rfl) (by rfl) (by simp [Sc, sc_pl, sc_ds, pl_ne, ds_ne]) ?_
      refine WPL.fin T false tok (by rfl) (by first | trivial | (simp only [Int.toNat_natCast, List.nil_append, List.cons_append, List.append_nil, AllP, plE, InR, Root.holds] <;> and_intros <;> first | omega | assumption | exact rfl | trivial | exact pl_ds _ _ _ | exact pl_st3 trivial (pl_pl _) (pl_pl _) | exact fun _ _ => trivial)) ?_
      refine WP.cond (by rfl) (fun h => ?_) (fun h => WP.skip ?_)
      · refine WP.rs T false tok (by rfl) (by first | trivial | (simp only [Int.toNat_natCast, List.nil_append, List.cons_append, List.append_nil, AllP, plE, InR, Root.holds] <;> and_intros <;> first | omega | assumption | exact rfl | trivial | exact pl_ds _ _ _ | exact pl_st3 trivial (pl_pl _) (pl_pl _) | exact fun _ _ => trivial)) ?_
        rw [e]
        exact WP.ret (Ends.val (by rfl) (by first | trivial | (simp only [Int.toNat_natCast, List.nil_append, List.cons_append, List.append_nil, AllP, plE, InR, Root.holds] <;> and_intros <;> first | omega | assumption | exact rfl | trivial | exact pl_ds _ _ _ | exact pl_st3 trivial (pl_pl _) (pl_pl _) | exact fun _ _ => trivial)) (by rfl) (by exact sc_t2 (sc_pl _ _) trivial))
      · cases h
    · obtain ⟨N, rfl, h1, h2, hP⟩ := perm_of_B hc
      have e : thenR p q N = t2 (pl (fillF (fun i => q (p i)) N)) (.i .i64 0) := by unfold thenR; rw [hc, hd]; rfl
      refine WP.rw ?_
      refine WPL.run T false 2 tok (by rfl) (by first | trivial | (simp only [Int.toNat_natCast, List.nil_append, List.cons_append, List.append_nil, AllP, plE, InR, Root.holds] <;> and_intros <;> first | omega | assumption | exact rfl | trivial | exact pl_ds _ _ _ | exact pl_st3 trivial (pl_pl _) (pl_pl _) | exact fun _ _ => trivial)) ?_
      refine WPL.call (hc ▸ l01Perm_fn p hp N) (by rfl) (by rfl) (by rfl) (by simp [Sc, sc_pl, sc_ds, pl_ne, ds_ne]) ?_
      refine WPL.run T false 4 tok (by rfl) (by first | trivial | (simp only [Int.toNat_natCast, List.nil_append, List.cons_append, List.append_nil, AllP, plE, InR, Root.holds] <;> and_intros <;> first | omega | assumption | exact rfl | trivial | exact pl_ds _ _ _ | exact pl_st3 trivial (pl_pl _) (pl_pl _) | exact fun _ _ => trivial)) ?_
      refine WPL.call (hd ▸ l01Perm_fn q hq N) (by rfl) (by rfl) (by rfl) (by simp [Sc, sc_pl, sc_ds, pl_ne, ds_ne]) ?_
      refine WPL.fin T false tok (by rfl) (by first | trivial | (simp only [Int.toNat_natCast, List.nil_append, List.cons_append, List.append_nil, AllP, plE, InR, Root.holds] <;> and_intros <;> first | omega | assumption | exact rfl | trivial | exact pl_ds _ _ _ | exact pl_st3 trivial (pl_pl _) (pl_pl _) | exact fun _ _ => trivial)) ?_
      refine WP.cond (by rfl) (fun h => ?_) (fun h => WP.skip ?_)
      · cases h
      refine WP.rw ?_
      refine WPL.run T false 3 tok (by rfl) (by first | trivial | (simp only [Int.toNat_natCast, List.nil_append, List.cons_append, List.append_nil, AllP, plE, InR, Root.holds] <;> and_intros <;> first | omega | assumption | exact rfl | trivial | exact pl_ds _ _ _ | exact pl_st3 trivial (pl_pl _) (pl_pl _) | exact fun _ _ => trivial)) ?_
      refine WPL.call (l01Then_fn p q N h2 hP.lt) (by rfl) (by rfl) (by rfl) (by simp [Sc, sc_pl, sc_ds, pl_ne, ds_ne]) ?_
      refine WPL.fin T false tok (by rfl) (by first | trivial | (simp only [Int.toNat_natCast, List.nil_append, List.cons_append, List.append_nil, AllP, plE, InR, Root.holds] <;> and_intros <;> first | omega | assumption | exact rfl | trivial | exact pl_ds _ _ _ | exact pl_st3 trivial (pl_pl _) (pl_pl _) | exact fun _ _ => trivial)) ?_
      rw [e]
      exact WP.ret (Ends.val (by rfl) (by first | trivial | (simp only [Int.toNat_natCast, List.nil_append, List.cons_append, List.append_nil, AllP, plE, InR, Root.holds] <;> and_intros <;> first | omega | assumption | exact rfl | trivial | exact pl_ds _ _ _ | exact pl_st3 trivial (pl_pl _) (pl_pl _) | exact fun _ _ => trivial)) (by rfl) (by exact sc_t2 (sc_pl _ _) trivial))

theorem implThen_fn (p q : Nat → Nat) (hp : ∀ i, p i < 256) (hq : ∀ i, q i < 256) (n : Int) : FnP Try.prog 35 [pl p, pl q, .i .i64 n] (thenR p q n) := by
  refine FnS.into T tok Try.func35 (by rfl) rfl rfl rfl (by simp) ?_
  refine WP.rs T false tok (by rfl) (by first | trivial | (simp only [Int.toNat_natCast, List.nil_append, List.cons_append, List.append_nil, AllP, plE, InR, Root.holds] <;> and_intros <;> first | omega | assumption | exact rfl | trivial | exact pl_ds _ _ _ | exact pl_st3 trivial (pl_pl _) (pl_pl _) | exact fun _ _ => trivial)) ?_
  refine WP.seq ?_
  cases hc : permB p n
  · have e : thenR p q n = t2 (pl fun _ => 0) (.i .i64 1) := by unfold thenR; rw [hc]; rfl
    refine WP.rw ?_
    refine WPL.run T false 2 tok (by rfl) (by first | trivial | (simp only [Int.toNat_natCast, List.nil_append, List.cons_append, List.append_nil, AllP, plE, InR, Root.holds] <;> and_intros <;> first | omega | assumption | exact rfl | trivial | exact pl_ds _ _ _ | exact pl_st3 trivial (pl_pl _) (pl_pl _) | exact fun _ _ => trivial)) ?_
    refine WPL.call (hc ▸ IsPermutation_fn p hp n) (by rfl) (by rfl) (by rfl) (by simp [Sc, sc_pl, sc_ds, pl_ne, ds_ne]) ?_
    refine WPL.fin T false tok (by rfl) (by first | trivial | (simp only [Int.toNat_natCast, List.nil_append, List.cons_append, List.append_nil, AllP, plE, InR, Root.holds] <;> and_intros <;> first | omega | assumption | exact rfl | trivial | exact pl_ds _ _ _ | exact pl_st3 trivial (pl_pl _) (pl_pl _) | exact fun _ _ => trivial)) ?_
    refine WP.cond (by rfl) (fun h => ?_) (fun h => WP.skip ?_)
    · refine WP.rs T false tok (by rfl) (by first | trivial | (simp only [Int.toNat_natCast, List.nil_append, List.cons_append, List.append_nil, AllP, plE, InR, Root.holds] <;> and_intros <;> first | omega | assumption | exact rfl | trivial | exact pl_ds _ _ _ | exact pl_st3 trivial (pl_pl _) (pl_pl _) | exact fun _ _ => trivial)) ?_
      rw [e]
      exact WP.ret (Ends.val (by rfl) (by first | trivial | (simp only [Int.toNat_natCast, List.nil_append, List.cons_append, List.append_nil, AllP, plE, InR, Root.holds] <;> and_intros <;> first | omega | assumption | exact rfl | trivial | exact pl_ds _ _ _ | exact pl_st3 trivial (pl_pl _) (pl_pl _) | exact fun _ _ => trivial)) (by rfl) (by exact sc_t2 (sc_pl _ _) trivial))
    · cases h
  · cases hd : permB q n
    · have e : thenR p q n = t2 (pl fun _ => 0) (.i .i64 1) := by unfold thenR; rw [hc, hd]; rfl
      refine WP.rw ?_
      refine WPL.run T false 2 tok (by rfl) (by first | trivial | (simp only [Int.toNat_natCast, List.nil_append, List.cons_append, List.append_nil, AllP, plE, InR, Root.holds] <;> and_intros <;> first | omega | assumption | exact rfl | trivial | exact pl_ds _ _ _ | exact pl_st3 trivial (pl_pl _) (pl_pl _) | exact fun _ _ => trivial)) ?_
      refine WPL.call (hc ▸ IsPermutation_fn p hp n) (by rfl) (by rfl) (by rfl) (by simp [Sc, sc_pl, sc_ds, pl_ne, ds_ne]) ?_
      refine WPL.run T false 4 tok (by rfl) (by first | trivial | (simp only [Int.toNat_natCast, List.nil_append, List.cons_append, List.append_nil, AllP, plE, InR, Root.holds] <;> and_intros <;> first | omega | assumption | exact rfl | trivial | exact pl_ds _ _ _ | exact pl_st3 trivial (pl_pl _) (pl_pl _) | exact fun _ _ => trivial)) ?_
      refine WPL.call (hd ▸ IsPermutation_fn q hq n) (by rfl) (by rfl) (by rfl) (by simp [Sc, sc_pl, sc_ds, pl_ne, ds_ne]) ?_
      refine WPL.fin T false tok (by rfl) (by first | trivial | (simp only [Int.toNat_natCast, List.nil_append, List.cons_append, List.append_nil, AllP, plE, InR, Root.holds] <;> and_intros <;> first | omega | assumption | exact rfl | trivial | exact pl_ds _ _ _ | exact pl_st3 trivial (pl_pl _) (pl_pl _) | exact fun _ _ => trivial)) ?_
      refine WP.cond (by rfl) (fun h => ?_) (fun h => WP.skip ?_)
      · refine WP.rs T false tok (by rfl) (by first | trivial | (simp only [Int.toNat_natCast, List.nil_append, List.cons_append, List.append_nil, AllP, plE, InR, Root.holds] <;> and_intros <;> first | omega | assumption | exact rfl | trivial | exact pl_ds _ _ _ | exact pl_st3 trivial (pl_pl _) (pl_pl _) | exact fun _ _ => trivial)) ?_
        rw [e]
        exact WP.ret (Ends.val (by rfl) (by first | trivial | (simp only [Int.toNat_natCast, List.nil_append, List.cons_append, List.append_nil, AllP, plE, InR, Root.holds] <;> and_intros <;> first | omega | assumption | exact rfl | trivial | exact pl_ds _ _ _ | exact pl_st3 trivial (pl_pl _) (pl_pl _) | exact fun _ _ => trivial)) (by rfl) (by exact sc_t2 (sc_pl _ _) trivial))
      · cases h
    · obtain ⟨N, rfl, h1, h2, hP⟩ := perm_of_B hc
      have e : thenR p q N = t2 (pl (fillF (fun i => q (p i)) N)) (.i .i64 0) := by unfold thenR; rw [hc, hd]; rfl
      refine WP.rw ?_
      refine WPL.run T false 2 tok (by rfl) (by first | trivial | (simp only [Int.toNat_natCast, List.nil_append, List.cons_append, List.append_nil, AllP, plE, InR, Root.holds] <;> and_intros <;> first | omega | assumption | exact rfl | trivial | exact pl_ds _ _ _ | exact pl_st3 trivial (pl_pl _) (pl_pl _) | exact fun _ _ => trivial)) ?_
      refine WPL.call (hc ▸ IsPermutation_fn p hp N) (by rfl) (by rfl) (by rfl) (by simp [Sc, sc_pl, sc_ds, pl_ne, ds_ne]) ?_
      refine WPL.run T false 4 tok (by rfl) (by first | trivial | (simp only [Int.toNat_natCast, List.nil_append, List.cons_append, List.append_nil, AllP, plE, InR, Root.holds] <;> and_intros <;> first | omega | assumption | exact rfl | trivial | exact pl_ds _ _ _ | exact pl_st3 trivial (pl_pl _) (pl_pl _) | exact fun _ _ => trivial)) ?_
      refine WPL.call (hd ▸ IsPermutation_fn q hq N) (by rfl) (by rfl) (by rfl) (by simp [Sc, sc_pl, sc_ds, pl_ne, ds_ne]) ?_
      refine WPL.fin T false tok (by rfl) (by first | trivial | (simp only [Int.toNat_natCast, List.nil_append, List.cons_append, List.append_nil, AllP, plE, InR, Root.holds] <;> and_intros <;> first | omega | assumption | exact rfl | trivial | exact pl_ds _ _ _ | exact pl_st3 trivial (pl_pl _) (pl_pl _) | exact fun _ _ => trivial)) ?_
      refine WP.cond (by rfl) (fun h => ?_) (fun h => WP.skip ?_)
      · cases h
      refine WP.rw ?_
      refine WPL.run T false 3 tok (by rfl) (by first | trivial | (simp only [Int.toNat_natCast, List.nil_append, List.cons_append, List.append_nil, AllP, plE, InR, Root.holds] <;> and_intros <;> first | omega | assumption | exact rfl | trivial | exact pl_ds _ _ _ | exact pl_st3 trivial (pl_pl _) (pl_pl _) | exact fun _ _ => trivial)) ?_
      refine WPL.call (then_fn p q N h2 hP.lt) (by rfl) (by rfl) (by rfl) (by simp [Sc, sc_pl, sc_ds, pl_ne, ds_ne]) ?_
      refine WPL.fin T false tok (by rfl) (by first | trivial | (simp only [Int.toNat_natCast, List.nil_append, List.cons_append, List.append_nil, AllP, plE, InR, Root.holds] <;> and_intros <;> first | omega | assumption | exact rfl | trivial | exact pl_ds _ _ _ | exact pl_st3 trivial (pl_pl _) (pl_pl _) | exact fun _ _ => trivial)) ?_
      rw [e]
      exact WP.ret (Ends.val (by rfl) (by first | trivial | (simp only [Int.toNat_natCast, List.nil_append, List.cons_append, List.append_nil, AllP, plE, InR, Root.holds] <;> and_intros <;> first | omega | assumption | exact rfl | trivial | exact pl_ds _ _ _ | exact pl_st3 trivial (pl_pl _) (pl_pl _) | exact fun _ _ => trivial)) (by rfl) (by exact sc_t2 (sc_pl _ _) trivial))

theorem law_ThenPlaces (p : Nat → Nat) (hp : ∀ i, p i < 256) (q : Nat → Nat) (hq : ∀ i, q i < 256) (n : Int) : FnP Try.prog 11 [pl p, pl q, .i .i64 n] (.b true) := by
  have hp' : ∀ i, (fun i => if i < 16 then p i else 0) i < 256 := fun i => by dsimp only; split; exact hp i; omega
  have hq' : ∀ i, (fun i => if i < 16 then q i else 0) i < 256 := fun i => by dsimp only; split; exact hq i; omega
  obtain ⟨r, c, e⟩ := thenR_form (fun i => if i < 16 then p i else 0) (fun i => if i < 16 then q i else 0) n
  have h1 := specThen_fn _ _ hp' hq' n
  have h2 := implThen_fn _ _ hp' hq' n
  rw [e] at h1 h2
  refine FnS.into T tok Try.func11 (by rfl) rfl rfl rfl (by simp) ?_
  refine WP.rs T false tok (by rfl) (by first | trivial | (simp only [Int.toNat_natCast, List.nil_append, List.cons_append, List.append_nil, AllP, plE, InR, Root.holds] <;> and_intros <;> first | omega | assumption | exact rfl | trivial | exact pl_ds _ _ _ | exact pl_st3 trivial (pl_pl _) (pl_pl _) | exact fun _ _ => trivial)) ?_
  refine WP.seq ?_
  refine WP.dt (T := T) 11 1 ?_
  refine HW.run false 1 tok (by rfl) (by first | trivial | (simp only [Int.toNat_natCast, List.nil_append, List.cons_append, List.append_nil, AllP, plE, InR, Root.holds] <;> and_intros <;> first | omega | assumption | exact rfl | trivial | exact pl_ds _ _ _ | exact pl_st3 trivial (pl_pl _) (pl_pl _) | exact fun _ _ => trivial)) ?_
  refine HW.call [] (toPlaces_fn p) (by rfl) (by rfl) trivial (by repeat (first | exact trivial | (refine ArgsR.cons ?_ (by rfl) ?_) | exact (show _ = _ ∧ _ from ⟨rfl, by first | trivial | exact sc_pl _ _ | exact sc_ds _ _ _ _⟩) | exact (show _ = _ from rfl))) (by rfl) (by simp [Sc, sc_pl, sc_ds]) (sc_pl _ _) ?_
  refine HW.run false 1 tok (by rfl) (by first | trivial | (simp only [Int.toNat_natCast, List.nil_append, List.cons_append, List.append_nil, AllP, plE, InR, Root.holds] <;> and_intros <;> first | omega | assumption | exact rfl | trivial | exact pl_ds _ _ _ | exact pl_st3 trivial (pl_pl _) (pl_pl _) | exact fun _ _ => trivial)) ?_
  refine HW.call [] (toPlaces_fn q) (by rfl) (by rfl) trivial (by repeat (first | exact trivial | (refine ArgsR.cons ?_ (by rfl) ?_) | exact (show _ = _ ∧ _ from ⟨rfl, by first | trivial | exact sc_pl _ _ | exact sc_ds _ _ _ _⟩) | exact (show _ = _ from rfl))) (by rfl) (by simp [Sc, sc_pl, sc_ds]) (sc_pl _ _) ?_
  refine HW.run false 1 tok (by rfl) (by first | trivial | (simp only [Int.toNat_natCast, List.nil_append, List.cons_append, List.append_nil, AllP, plE, InR, Root.holds] <;> and_intros <;> first | omega | assumption | exact rfl | trivial | exact pl_ds _ _ _ | exact pl_st3 trivial (pl_pl _) (pl_pl _) | exact fun _ _ => trivial)) ?_
  refine HW.call [] (h1) (by rfl) (by rfl) trivial (by repeat (first | exact trivial | (refine ArgsR.cons ?_ (by rfl) ?_) | exact (show _ = _ ∧ _ from ⟨rfl, by first | trivial | exact sc_pl _ _ | exact sc_ds _ _ _ _⟩) | exact (show _ = _ from rfl))) (by rfl) (by simp [Sc, sc_pl, sc_ds]) (sc_t2 (sc_pl _ _) trivial) ?_
  refine HW.run false 5 tok (by rfl) (by exact ⟨sc_t2 (sc_pl _ _) trivial, sc_pl _ _, sc_pl _ _⟩) ?_
  refine HW.fin tok (by kernel_rfl) 11 1 (by rfl) (by kernel_rfl) (by kernel_rfl) (by kernel_rfl) (by rfl) (by rfl) rfl rfl ?_
  refine WPL.fin T false tok (by rfl) (by first | trivial | (simp only [Int.toNat_natCast, List.nil_append, List.cons_append, List.append_nil, AllP, plE, InR, Root.holds] <;> and_intros <;> first | omega | assumption | exact rfl | trivial | exact pl_ds _ _ _ | exact pl_st3 trivial (pl_pl _) (pl_pl _) | exact fun _ _ => trivial)) ?_
  refine WP.seq ?_
  refine WP.dt (T := T) 11 1 ?_
  refine HW.run false 1 tok (by rfl) (by first | trivial | (simp only [Int.toNat_natCast, List.nil_append, List.cons_append, List.append_nil, AllP, plE, InR, Root.holds] <;> and_intros <;> first | omega | assumption | exact rfl | trivial | exact pl_ds _ _ _ | exact pl_st3 trivial (pl_pl _) (pl_pl _) | exact fun _ _ => trivial)) ?_
  refine HW.call [] (toPlaces_fn p) (by rfl) (by rfl) trivial (by repeat (first | exact trivial | (refine ArgsR.cons ?_ (by rfl) ?_) | exact (show _ = _ ∧ _ from ⟨rfl, by first | trivial | exact sc_pl _ _ | exact sc_ds _ _ _ _⟩) | exact (show _ = _ from rfl))) (by rfl) (by simp [Sc, sc_pl, sc_ds]) (sc_pl _ _) ?_
  refine HW.run false 1 tok (by rfl) (by first | trivial | (simp only [Int.toNat_natCast, List.nil_append, List.cons_append, List.append_nil, AllP, plE, InR, Root.holds] <;> and_intros <;> first | omega | assumption | exact rfl | trivial | exact pl_ds _ _ _ | exact pl_st3 trivial (pl_pl _) (pl_pl _) | exact fun _ _ => trivial)) ?_
  refine HW.call [] (toPlaces_fn q) (by rfl) (by rfl) trivial (by repeat (first | exact trivial | (refine ArgsR.cons ?_ (by rfl) ?_) | exact (show _ = _ ∧ _ from ⟨rfl, by first | trivial | exact sc_pl _ _ | exact sc_ds _ _ _ _⟩) | exact (show _ = _ from rfl))) (by rfl) (by simp [Sc, sc_pl, sc_ds]) (sc_pl _ _) ?_
  refine HW.run false 1 tok (by rfl) (by first | trivial | (simp only [Int.toNat_natCast, List.nil_append, List.cons_append, List.append_nil, AllP, plE, InR, Root.holds] <;> and_intros <;> first | omega | assumption | exact rfl | trivial | exact pl_ds _ _ _ | exact pl_st3 trivial (pl_pl _) (pl_pl _) | exact fun _ _ => trivial)) ?_
  refine HW.call [] (h2) (by rfl) (by rfl) trivial (by repeat (first | exact trivial | (refine ArgsR.cons ?_ (by rfl) ?_) | exact (show _ = _ ∧ _ from ⟨rfl, by first | trivial | exact sc_pl _ _ | exact sc_ds _ _ _ _⟩) | exact (show _ = _ from rfl))) (by rfl) (by simp [Sc, sc_pl, sc_ds]) (sc_t2 (sc_pl _ _) trivial) ?_
  refine HW.run false 5 tok (by rfl) (by exact ⟨sc_t2 (sc_pl _ _) trivial, sc_pl _ _, sc_pl _ _⟩) ?_
  refine HW.fin tok (by kernel_rfl) 11 1 (by rfl) (by kernel_rfl) (by kernel_rfl) (by kernel_rfl) (by rfl) (by rfl) rfl rfl ?_
  refine WPL.fin T false tok (by rfl) (by first | trivial | (simp only [Int.toNat_natCast, List.nil_append, List.cons_append, List.append_nil, AllP, plE, InR, Root.holds] <;> and_intros <;> first | omega | assumption | exact rfl | trivial | exact pl_ds _ _ _ | exact pl_st3 trivial (pl_pl _) (pl_pl _) | exact fun _ _ => trivial)) ?_
  refine WP.seq ?_
  refine WP.rw ?_
  refine WPL.run T false 2 tok (by rfl) (by first | trivial | (simp only [Int.toNat_natCast, List.nil_append, List.cons_append, List.append_nil, AllP, plE, InR, Root.holds] <;> and_intros <;> first | omega | assumption | exact rfl | trivial | exact pl_ds _ _ _ | exact pl_st3 trivial (pl_pl _) (pl_pl _) | exact fun _ _ => trivial)) ?_
  refine WPL.call (eqPlaces_same r) (by rfl) (by rfl) (by rfl) (by simp [Sc, sc_pl, sc_ds, pl_ne, ds_ne]) ?_
  refine WPL.fin T false tok (by rfl) (by first | trivial | (simp only [Int.toNat_natCast, List.nil_append, List.cons_append, List.append_nil, AllP, plE, InR, Root.holds] <;> and_intros <;> first | omega | assumption | exact rfl | trivial | exact pl_ds _ _ _ | exact pl_st3 trivial (pl_pl _) (pl_pl _) | exact fun _ _ => trivial)) ?_
  refine WP.cond (by rfl) (fun hc => ?_) (fun hc => WP.skip ?_)
  · simp at hc
  · refine WP.rs T false tok (by rfl) (by first | trivial | (simp only [Int.toNat_natCast, List.nil_append, List.cons_append, List.append_nil, AllP, plE, InR, Root.holds] <;> and_intros <;> first | omega | assumption | exact rfl | trivial | exact pl_ds _ _ _ | exact pl_st3 trivial (pl_pl _) (pl_pl _) | exact fun _ _ => trivial)) ?_
    exact WP.ret (Ends.val (by rfl) (by first | trivial | (simp only [Int.toNat_natCast, List.nil_append, List.cons_append, List.append_nil, AllP, plE, InR, Root.holds] <;> and_intros <;> first | omega | assumption | exact rfl | trivial | exact pl_ds _ _ _ | exact pl_st3 trivial (pl_pl _) (pl_pl _) | exact fun _ _ => trivial)) (by rfl) (by trivial))

end Go.Proofs.Ytjkojpmocgnkhaa
