/- Stars, bands and the permutation that leads back: the program and the reference return the same. -/
import Derived.Test.YtjkojpmocgnkhaaX4
namespace Go.Proofs.Ytjkojpmocgnkhaa
open Go.RowKit DM
set_option linter.unusedSimpArgs false
set_option linter.unusedVariables false
set_option maxRecDepth 100000

theorem l01Star_fn (n : Nat) (h1 : 1 ≤ n) (hn : n ≤ 16) : FnP Try.prog 53 [.i .i64 n] (ds_ n (fillF (fun i => (i + 1) % n) n) (fillF (fun i => i) n)) := by
  refine FnS.into T tok Try.func53 (by rfl) rfl rfl rfl (by simp) ?_
  refine WP.rs T false tok (by rfl) (by first | trivial | (simp only [Int.toNat_natCast, List.nil_append, List.cons_append, List.append_nil, AllP, plE, InR, Root.holds] <;> and_intros <;> first | omega | assumption | exact rfl | trivial | exact pl_ds _ _ _ | exact pl_st3 trivial (pl_pl _) (pl_pl _) | exact fun _ _ => trivial)) ?_
  refine WP.rw ?_
  refine WPL.run T false 2 tok (by rfl) (by first | trivial | (simp only [Int.toNat_natCast, List.nil_append, List.cons_append, List.append_nil, AllP, plE, InR, Root.holds] <;> and_intros <;> first | omega | assumption | exact rfl | trivial | exact pl_ds _ _ _ | exact pl_st3 trivial (pl_pl _) (pl_pl _) | exact fun _ _ => trivial)) ?_
  refine WPL.call (l01Turn_fn n h1 hn) (by rfl) (by rfl) (by rfl) (by simp [Sc, sc_pl, sc_ds, pl_ne, ds_ne]) ?_
  refine WPL.run T false 1 tok (by rfl) (by first | trivial | (simp only [Int.toNat_natCast, List.nil_append, List.cons_append, List.append_nil, AllP, plE, InR, Root.holds] <;> and_intros <;> first | omega | assumption | exact rfl | trivial | exact pl_ds _ _ _ | exact pl_st3 trivial (pl_pl _) (pl_pl _) | exact fun _ _ => trivial)) ?_
  refine WPL.call (l01Same_fn n hn) (by rfl) (by rfl) (by rfl) (by simp [Sc, sc_pl, sc_ds, pl_ne, ds_ne]) ?_
  refine WPL.fin T false tok (by rfl) (by first | trivial | (simp only [Int.toNat_natCast, List.nil_append, List.cons_append, List.append_nil, AllP, plE, InR, Root.holds] <;> and_intros <;> first | omega | assumption | exact rfl | trivial | exact pl_ds _ _ _ | exact pl_st3 trivial (pl_pl _) (pl_pl _) | exact fun _ _ => trivial)) ?_
  exact WP.ret (Ends.val (by rfl) (by first | trivial | (simp only [Int.toNat_natCast, List.nil_append, List.cons_append, List.append_nil, AllP, plE, InR, Root.holds] <;> and_intros <;> first | omega | assumption | exact rfl | trivial | exact pl_ds _ _ _ | exact pl_st3 trivial (pl_pl _) (pl_pl _) | exact fun _ _ => trivial)) (by exact dsf_of rfl rfl rfl fun _ => rfl) (by exact sc_ds _ _ _ _))

/-- What the star's functions return. -/
noncomputable def starR (n : Int) : Dat := if 1 ≤ n ∧ n ≤ 16 then t2 (ds_ n (fillF (fun i => (i + 1) % n.toNat) n.toNat) (fillF (fun i => i) n.toNat)) (.i .i64 0) else t2 (ds_ 0 (fun _ => 0) (fun _ => 0)) (.i .i64 2)

theorem specStar_fn (n : Int) : FnP Try.prog 24 [.i .i64 n] (starR n) := by
  refine FnS.into T tok Try.func24 (by rfl) rfl rfl rfl (by simp) ?_
  refine WP.rs T false tok (by rfl) (by first | trivial | (simp only [Int.toNat_natCast, List.nil_append, List.cons_append, List.append_nil, AllP, plE, InR, Root.holds] <;> and_intros <;> first | omega | assumption | exact rfl | trivial | exact pl_ds _ _ _ | exact pl_st3 trivial (pl_pl _) (pl_pl _) | exact fun _ _ => trivial)) ?_
  refine WP.seq ?_
  refine WP.rw ?_
  refine WPL.run T false 1 tok (by rfl) (by first | trivial | (simp only [Int.toNat_natCast, List.nil_append, List.cons_append, List.append_nil, AllP, plE, InR, Root.holds] <;> and_intros <;> first | omega | assumption | exact rfl | trivial | exact pl_ds _ _ _ | exact pl_st3 trivial (pl_pl _) (pl_pl _) | exact fun _ _ => trivial)) ?_
  refine WPL.call (l01In_fn n 1 16) (by rfl) (by rfl) (by rfl) (by simp [Sc, sc_pl, sc_ds, pl_ne, ds_ne]) ?_
  refine WPL.fin T false tok (by rfl) (by first | trivial | (simp only [Int.toNat_natCast, List.nil_append, List.cons_append, List.append_nil, AllP, plE, InR, Root.holds] <;> and_intros <;> first | omega | assumption | exact rfl | trivial | exact pl_ds _ _ _ | exact pl_st3 trivial (pl_pl _) (pl_pl _) | exact fun _ _ => trivial)) ?_
  refine WP.cond (by rfl) (fun hc => ?_) (fun hc => WP.skip ?_)
  · have e : starR n = t2 (ds_ 0 (fun _ => 0) (fun _ => 0)) (.i .i64 2) := by unfold starR; rw [if_neg (by simp at hc; omega)]
    refine WP.rs T false tok (by rfl) (by first | trivial | (simp only [Int.toNat_natCast, List.nil_append, List.cons_append, List.append_nil, AllP, plE, InR, Root.holds] <;> and_intros <;> first | omega | assumption | exact rfl | trivial | exact pl_ds _ _ _ | exact pl_st3 trivial (pl_pl _) (pl_pl _) | exact fun _ _ => trivial)) ?_
    rw [e]
    exact WP.ret (Ends.val (by rfl) (by first | trivial | (simp only [Int.toNat_natCast, List.nil_append, List.cons_append, List.append_nil, AllP, plE, InR, Root.holds] <;> and_intros <;> first | omega | assumption | exact rfl | trivial | exact pl_ds _ _ _ | exact pl_st3 trivial (pl_pl _) (pl_pl _) | exact fun _ _ => trivial)) (by exact congrArg (t2 · _) (dsf_of rfl rfl rfl fun _ => rfl)) (by exact sc_t2 (sc_ds _ _ _ _) trivial))
  obtain ⟨N, rfl⟩ : ∃ N : Nat, n = N := ⟨n.toNat, by simp at hc; omega⟩
  have hN : 1 ≤ N ∧ N ≤ 16 := by simp at hc; omega
  have e : starR N = t2 (ds_ N (fillF (fun i => (i + 1) % N) N) (fillF (fun i => i) N)) (.i .i64 0) := by unfold starR; rw [if_pos (by omega)]; rfl
  refine WP.rw ?_
  refine WPL.run T false 1 tok (by rfl) (by first | trivial | (simp only [Int.toNat_natCast, List.nil_append, List.cons_append, List.append_nil, AllP, plE, InR, Root.holds] <;> and_intros <;> first | omega | assumption | exact rfl | trivial | exact pl_ds _ _ _ | exact pl_st3 trivial (pl_pl _) (pl_pl _) | exact fun _ _ => trivial)) ?_
  refine WPL.call (l01Star_fn N hN.1 hN.2) (by rfl) (by rfl) (by rfl) (by simp [Sc, sc_pl, sc_ds, pl_ne, ds_ne]) ?_
  refine WPL.fin T false tok (by rfl) (by first | trivial | (simp only [Int.toNat_natCast, List.nil_append, List.cons_append, List.append_nil, AllP, plE, InR, Root.holds] <;> and_intros <;> first | omega | assumption | exact rfl | trivial | exact pl_ds _ _ _ | exact pl_st3 trivial (pl_pl _) (pl_pl _) | exact fun _ _ => trivial)) ?_
  rw [e]
  exact WP.ret (Ends.val (by rfl) (by first | trivial | (simp only [Int.toNat_natCast, List.nil_append, List.cons_append, List.append_nil, AllP, plE, InR, Root.holds] <;> and_intros <;> first | omega | assumption | exact rfl | trivial | exact pl_ds _ _ _ | exact pl_st3 trivial (pl_pl _) (pl_pl _) | exact fun _ _ => trivial)) (by rfl) (by exact sc_t2 (sc_ds _ _ _ _) trivial))

theorem implStar_fn (n : Int) : FnP Try.prog 25 [.i .i64 n] (starR n) := by
  refine FnS.into T tok Try.func25 (by rfl) rfl rfl rfl (by simp) ?_
  refine WP.rs T false tok (by rfl) (by first | trivial | (simp only [Int.toNat_natCast, List.nil_append, List.cons_append, List.append_nil, AllP, plE, InR, Root.holds] <;> and_intros <;> first | omega | assumption | exact rfl | trivial | exact pl_ds _ _ _ | exact pl_st3 trivial (pl_pl _) (pl_pl _) | exact fun _ _ => trivial)) ?_
  refine WP.seq ?_
  refine WP.rw ?_
  refine WPL.run T false 1 tok (by rfl) (by first | trivial | (simp only [Int.toNat_natCast, List.nil_append, List.cons_append, List.append_nil, AllP, plE, InR, Root.holds] <;> and_intros <;> first | omega | assumption | exact rfl | trivial | exact pl_ds _ _ _ | exact pl_st3 trivial (pl_pl _) (pl_pl _) | exact fun _ _ => trivial)) ?_
  refine WPL.call (isSize_fn n) (by rfl) (by rfl) (by rfl) (by simp [Sc, sc_pl, sc_ds, pl_ne, ds_ne]) ?_
  refine WPL.fin T false tok (by rfl) (by first | trivial | (simp only [Int.toNat_natCast, List.nil_append, List.cons_append, List.append_nil, AllP, plE, InR, Root.holds] <;> and_intros <;> first | omega | assumption | exact rfl | trivial | exact pl_ds _ _ _ | exact pl_st3 trivial (pl_pl _) (pl_pl _) | exact fun _ _ => trivial)) ?_
  refine WP.cond (by rfl) (fun hc => ?_) (fun hc => WP.skip ?_)
  · have e : starR n = t2 (ds_ 0 (fun _ => 0) (fun _ => 0)) (.i .i64 2) := by unfold starR; rw [if_neg (by simp at hc; omega)]
    refine WP.rs T false tok (by rfl) (by first | trivial | (simp only [Int.toNat_natCast, List.nil_append, List.cons_append, List.append_nil, AllP, plE, InR, Root.holds] <;> and_intros <;> first | omega | assumption | exact rfl | trivial | exact pl_ds _ _ _ | exact pl_st3 trivial (pl_pl _) (pl_pl _) | exact fun _ _ => trivial)) ?_
    rw [e]
    exact WP.ret (Ends.val (by rfl) (by first | trivial | (simp only [Int.toNat_natCast, List.nil_append, List.cons_append, List.append_nil, AllP, plE, InR, Root.holds] <;> and_intros <;> first | omega | assumption | exact rfl | trivial | exact pl_ds _ _ _ | exact pl_st3 trivial (pl_pl _) (pl_pl _) | exact fun _ _ => trivial)) (by exact congrArg (t2 · _) (dsf_of rfl rfl rfl fun _ => rfl)) (by exact sc_t2 (sc_ds _ _ _ _) trivial))
  obtain ⟨N, rfl⟩ : ∃ N : Nat, n = N := ⟨n.toNat, by simp at hc; omega⟩
  have hN : 1 ≤ N ∧ N ≤ 16 := by simp at hc; omega
  have e : starR N = t2 (ds_ N (fillF (fun i => (i + 1) % N) N) (fillF (fun i => i) N)) (.i .i64 0) := by unfold starR; rw [if_pos (by omega)]; rfl
  refine WP.rw ?_
  refine WPL.run T false 1 tok (by rfl) (by first | trivial | (simp only [Int.toNat_natCast, List.nil_append, List.cons_append, List.append_nil, AllP, plE, InR, Root.holds] <;> and_intros <;> first | omega | assumption | exact rfl | trivial | exact pl_ds _ _ _ | exact pl_st3 trivial (pl_pl _) (pl_pl _) | exact fun _ _ => trivial)) ?_
  refine WPL.call (star_fn N hN.1 hN.2) (by rfl) (by rfl) (by rfl) (by simp [Sc, sc_pl, sc_ds, pl_ne, ds_ne]) ?_
  refine WPL.fin T false tok (by rfl) (by first | trivial | (simp only [Int.toNat_natCast, List.nil_append, List.cons_append, List.append_nil, AllP, plE, InR, Root.holds] <;> and_intros <;> first | omega | assumption | exact rfl | trivial | exact pl_ds _ _ _ | exact pl_st3 trivial (pl_pl _) (pl_pl _) | exact fun _ _ => trivial)) ?_
  rw [e]
  exact WP.ret (Ends.val (by rfl) (by first | trivial | (simp only [Int.toNat_natCast, List.nil_append, List.cons_append, List.append_nil, AllP, plE, InR, Root.holds] <;> and_intros <;> first | omega | assumption | exact rfl | trivial | exact pl_ds _ _ _ | exact pl_st3 trivial (pl_pl _) (pl_pl _) | exact fun _ _ => trivial)) (by rfl) (by exact sc_t2 (sc_ds _ _ _ _) trivial))

theorem starR_form (n : Int) : ∃ m b w c, starR n = t2 (ds_ m b w) (.i .i64 c) := by
  unfold starR; split <;> exact ⟨_, _, _, _, rfl⟩

theorem law_StarDessin (n : Int) : FnP Try.prog 7 [.i .i64 n] (.b true) := by
  obtain ⟨m, b, w, c, e⟩ := starR_form n
  have h1 := specStar_fn n
  have h2 := implStar_fn n
  rw [e] at h1 h2
  refine FnS.into T tok Try.func7 (by rfl) rfl rfl rfl (by simp) ?_
  refine WP.rs T false tok (by rfl) (by first | trivial | (simp only [Int.toNat_natCast, List.nil_append, List.cons_append, List.append_nil, AllP, plE, InR, Root.holds] <;> and_intros <;> first | omega | assumption | exact rfl | trivial | exact pl_ds _ _ _ | exact pl_st3 trivial (pl_pl _) (pl_pl _) | exact fun _ _ => trivial)) ?_
  refine WP.rw ?_
  refine WPL.run T false 1 tok (by rfl) (by first | trivial | (simp only [Int.toNat_natCast, List.nil_append, List.cons_append, List.append_nil, AllP, plE, InR, Root.holds] <;> and_intros <;> first | omega | assumption | exact rfl | trivial | exact pl_ds _ _ _ | exact pl_st3 trivial (pl_pl _) (pl_pl _) | exact fun _ _ => trivial)) ?_
  refine WPL.call (h1) (by rfl) (by rfl) (by rfl) (by simp [Sc, sc_pl, sc_ds, pl_ne, ds_ne]) ?_
  refine WPL.fin T false tok (by rfl) (by first | trivial | (simp only [Int.toNat_natCast, List.nil_append, List.cons_append, List.append_nil, AllP, plE, InR, Root.holds] <;> and_intros <;> first | omega | assumption | exact rfl | trivial | exact pl_ds _ _ _ | exact pl_st3 trivial (pl_pl _) (pl_pl _) | exact fun _ _ => trivial)) ?_
  refine WP.rw ?_
  refine WPL.run T false 1 tok (by rfl) (by first | trivial | (simp only [Int.toNat_natCast, List.nil_append, List.cons_append, List.append_nil, AllP, plE, InR, Root.holds] <;> and_intros <;> first | omega | assumption | exact rfl | trivial | exact pl_ds _ _ _ | exact pl_st3 trivial (pl_pl _) (pl_pl _) | exact fun _ _ => trivial)) ?_
  refine WPL.call (h2) (by rfl) (by rfl) (by rfl) (by simp [Sc, sc_pl, sc_ds, pl_ne, ds_ne]) ?_
  refine WPL.fin T false tok (by rfl) (by first | trivial | (simp only [Int.toNat_natCast, List.nil_append, List.cons_append, List.append_nil, AllP, plE, InR, Root.holds] <;> and_intros <;> first | omega | assumption | exact rfl | trivial | exact pl_ds _ _ _ | exact pl_st3 trivial (pl_pl _) (pl_pl _) | exact fun _ _ => trivial)) ?_
  refine WP.seq ?_
  refine WP.rw ?_
  refine WPL.run T false 2 tok (by rfl) (by first | trivial | (simp only [Int.toNat_natCast, List.nil_append, List.cons_append, List.append_nil, AllP, plE, InR, Root.holds] <;> and_intros <;> first | omega | assumption | exact rfl | trivial | exact pl_ds _ _ _ | exact pl_st3 trivial (pl_pl _) (pl_pl _) | exact fun _ _ => trivial)) ?_
  refine WPL.call (eqDessin_same m b w) (by rfl) (by rfl) (by rfl) (by simp [Sc, sc_pl, sc_ds, pl_ne, ds_ne]) ?_
  refine WPL.fin T false tok (by rfl) (by first | trivial | (simp only [Int.toNat_natCast, List.nil_append, List.cons_append, List.append_nil, AllP, plE, InR, Root.holds] <;> and_intros <;> first | omega | assumption | exact rfl | trivial | exact pl_ds _ _ _ | exact pl_st3 trivial (pl_pl _) (pl_pl _) | exact fun _ _ => trivial)) ?_
  refine WP.cond (by rfl) (fun hc => ?_) (fun hc => WP.skip ?_)
  · simp at hc
  · refine WP.rs T false tok (by rfl) (by first | trivial | (simp only [Int.toNat_natCast, List.nil_append, List.cons_append, List.append_nil, AllP, plE, InR, Root.holds] <;> and_intros <;> first | omega | assumption | exact rfl | trivial | exact pl_ds _ _ _ | exact pl_st3 trivial (pl_pl _) (pl_pl _) | exact fun _ _ => trivial)) ?_
    exact WP.ret (Ends.val (by rfl) (by first | trivial | (simp only [Int.toNat_natCast, List.nil_append, List.cons_append, List.append_nil, AllP, plE, InR, Root.holds] <;> and_intros <;> first | omega | assumption | exact rfl | trivial | exact pl_ds _ _ _ | exact pl_st3 trivial (pl_pl _) (pl_pl _) | exact fun _ _ => trivial)) (by rfl) (by trivial))

/-! ### Bands -/
noncomputable def bandR (n : Int) : Dat := if 1 ≤ n ∧ n ≤ 16 then t2 (ds_ n (fillF (fun i => (i + 1) % n.toNat) n.toNat) (backTo (fillF (fun i => (i + 1) % n.toNat) n.toNat) n.toNat)) (.i .i64 0) else t2 (ds_ 0 (fun _ => 0) (fun _ => 0)) (.i .i64 2)

theorem turn_lt (n : Nat) (i : Nat) (h : i < n) : fillF (fun i => (i + 1) % n) n i < n := by
  unfold fillF; rw [if_pos h]; exact Nat.mod_lt _ (by omega)

theorem specBand_fn (n : Int) : FnP Try.prog 29 [.i .i64 n] (bandR n) := by
  refine FnS.into T tok Try.func29 (by rfl) rfl rfl rfl (by simp) ?_
  refine WP.rs T false tok (by rfl) (by first | trivial | (simp only [Int.toNat_natCast, List.nil_append, List.cons_append, List.append_nil, AllP, plE, InR, Root.holds] <;> and_intros <;> first | omega | assumption | exact rfl | trivial | exact pl_ds _ _ _ | exact pl_st3 trivial (pl_pl _) (pl_pl _) | exact fun _ _ => trivial)) ?_
  refine WP.seq ?_
  refine WP.rw ?_
  refine WPL.run T false 1 tok (by rfl) (by first | trivial | (simp only [Int.toNat_natCast, List.nil_append, List.cons_append, List.append_nil, AllP, plE, InR, Root.holds] <;> and_intros <;> first | omega | assumption | exact rfl | trivial | exact pl_ds _ _ _ | exact pl_st3 trivial (pl_pl _) (pl_pl _) | exact fun _ _ => trivial)) ?_
  refine WPL.call (l01In_fn n 1 16) (by rfl) (by rfl) (by rfl) (by simp [Sc, sc_pl, sc_ds, pl_ne, ds_ne]) ?_
  refine WPL.fin T false tok (by rfl) (by first | trivial | (simp only [Int.toNat_natCast, List.nil_append, List.cons_append, List.append_nil, AllP, plE, InR, Root.holds] <;> and_intros <;> first | omega | assumption | exact rfl | trivial | exact pl_ds _ _ _ | exact pl_st3 trivial (pl_pl _) (pl_pl _) | exact fun _ _ => trivial)) ?_
  refine WP.cond (by rfl) (fun hc => ?_) (fun hc => WP.skip ?_)
  · have e : bandR n = t2 (ds_ 0 (fun _ => 0) (fun _ => 0)) (.i .i64 2) := by unfold bandR; rw [if_neg (by simp at hc; omega)]
    refine WP.rs T false tok (by rfl) (by first | trivial | (simp only [Int.toNat_natCast, List.nil_append, List.cons_append, List.append_nil, AllP, plE, InR, Root.holds] <;> and_intros <;> first | omega | assumption | exact rfl | trivial | exact pl_ds _ _ _ | exact pl_st3 trivial (pl_pl _) (pl_pl _) | exact fun _ _ => trivial)) ?_
    rw [e]
    exact WP.ret (Ends.val (by rfl) (by first | trivial | (simp only [Int.toNat_natCast, List.nil_append, List.cons_append, List.append_nil, AllP, plE, InR, Root.holds] <;> and_intros <;> first | omega | assumption | exact rfl | trivial | exact pl_ds _ _ _ | exact pl_st3 trivial (pl_pl _) (pl_pl _) | exact fun _ _ => trivial)) (by exact congrArg (t2 · _) (dsf_of rfl rfl rfl fun _ => rfl)) (by exact sc_t2 (sc_ds _ _ _ _) trivial))
  obtain ⟨N, rfl⟩ : ∃ N : Nat, n = N := ⟨n.toNat, by simp at hc; omega⟩
  have hN : 1 ≤ N ∧ N ≤ 16 := by simp at hc; omega
  have e : bandR N = t2 (ds_ N (fillF (fun i => (i + 1) % N) N) (backTo (fillF (fun i => (i + 1) % N) N) N)) (.i .i64 0) := by unfold bandR; rw [if_pos (by omega)]; rfl
  refine WP.rw ?_
  refine WPL.run T false 2 tok (by rfl) (by first | trivial | (simp only [Int.toNat_natCast, List.nil_append, List.cons_append, List.append_nil, AllP, plE, InR, Root.holds] <;> and_intros <;> first | omega | assumption | exact rfl | trivial | exact pl_ds _ _ _ | exact pl_st3 trivial (pl_pl _) (pl_pl _) | exact fun _ _ => trivial)) ?_
  refine WPL.call (l01Turn_fn N hN.1 hN.2) (by rfl) (by rfl) (by rfl) (by simp [Sc, sc_pl, sc_ds, pl_ne, ds_ne]) ?_
  refine WPL.run T false 1 tok (by rfl) (by first | trivial | (simp only [Int.toNat_natCast, List.nil_append, List.cons_append, List.append_nil, AllP, plE, InR, Root.holds] <;> and_intros <;> first | omega | assumption | exact rfl | trivial | exact pl_ds _ _ _ | exact pl_st3 trivial (pl_pl _) (pl_pl _) | exact fun _ _ => trivial)) ?_
  refine WPL.call (l01Turn_fn N hN.1 hN.2) (by rfl) (by rfl) (by rfl) (by simp [Sc, sc_pl, sc_ds, pl_ne, ds_ne]) ?_
  refine WPL.run T false 1 tok (by rfl) (by first | trivial | (simp only [Int.toNat_natCast, List.nil_append, List.cons_append, List.append_nil, AllP, plE, InR, Root.holds] <;> and_intros <;> first | omega | assumption | exact rfl | trivial | exact pl_ds _ _ _ | exact pl_st3 trivial (pl_pl _) (pl_pl _) | exact fun _ _ => trivial)) ?_
  refine WPL.call (l01Back_fn _ N hN.2 (turn_lt N)) (by rfl) (by rfl) (by rfl) (by simp [Sc, sc_pl, sc_ds, pl_ne, ds_ne]) ?_
  refine WPL.fin T false tok (by rfl) (by first | trivial | (simp only [Int.toNat_natCast, List.nil_append, List.cons_append, List.append_nil, AllP, plE, InR, Root.holds] <;> and_intros <;> first | omega | assumption | exact rfl | trivial | exact pl_ds _ _ _ | exact pl_st3 trivial (pl_pl _) (pl_pl _) | exact fun _ _ => trivial)) ?_
  rw [e]
  exact WP.ret (Ends.val (by rfl) (by first | trivial | (simp only [Int.toNat_natCast, List.nil_append, List.cons_append, List.append_nil, AllP, plE, InR, Root.holds] <;> and_intros <;> first | omega | assumption | exact rfl | trivial | exact pl_ds _ _ _ | exact pl_st3 trivial (pl_pl _) (pl_pl _) | exact fun _ _ => trivial)) (by exact congrArg (t2 · _) (dsf_of rfl rfl rfl fun _ => rfl)) (by exact sc_t2 (sc_ds _ _ _ _) trivial))

theorem implBand_fn (n : Int) : FnP Try.prog 30 [.i .i64 n] (bandR n) := by
  refine FnS.into T tok Try.func30 (by rfl) rfl rfl rfl (by simp) ?_
  refine WP.rs T false tok (by rfl) (by first | trivial | (simp only [Int.toNat_natCast, List.nil_append, List.cons_append, List.append_nil, AllP, plE, InR, Root.holds] <;> and_intros <;> first | omega | assumption | exact rfl | trivial | exact pl_ds _ _ _ | exact pl_st3 trivial (pl_pl _) (pl_pl _) | exact fun _ _ => trivial)) ?_
  refine WP.seq ?_
  refine WP.rw ?_
  refine WPL.run T false 1 tok (by rfl) (by first | trivial | (simp only [Int.toNat_natCast, List.nil_append, List.cons_append, List.append_nil, AllP, plE, InR, Root.holds] <;> and_intros <;> first | omega | assumption | exact rfl | trivial | exact pl_ds _ _ _ | exact pl_st3 trivial (pl_pl _) (pl_pl _) | exact fun _ _ => trivial)) ?_
  refine WPL.call (isSize_fn n) (by rfl) (by rfl) (by rfl) (by simp [Sc, sc_pl, sc_ds, pl_ne, ds_ne]) ?_
  refine WPL.fin T false tok (by rfl) (by first | trivial | (simp only [Int.toNat_natCast, List.nil_append, List.cons_append, List.append_nil, AllP, plE, InR, Root.holds] <;> and_intros <;> first | omega | assumption | exact rfl | trivial | exact pl_ds _ _ _ | exact pl_st3 trivial (pl_pl _) (pl_pl _) | exact fun _ _ => trivial)) ?_
  refine WP.cond (by rfl) (fun hc => ?_) (fun hc => WP.skip ?_)
  · have e : bandR n = t2 (ds_ 0 (fun _ => 0) (fun _ => 0)) (.i .i64 2) := by unfold bandR; rw [if_neg (by simp at hc; omega)]
    refine WP.rs T false tok (by rfl) (by first | trivial | (simp only [Int.toNat_natCast, List.nil_append, List.cons_append, List.append_nil, AllP, plE, InR, Root.holds] <;> and_intros <;> first | omega | assumption | exact rfl | trivial | exact pl_ds _ _ _ | exact pl_st3 trivial (pl_pl _) (pl_pl _) | exact fun _ _ => trivial)) ?_
    rw [e]
    exact WP.ret (Ends.val (by rfl) (by first | trivial | (simp only [Int.toNat_natCast, List.nil_append, List.cons_append, List.append_nil, AllP, plE, InR, Root.holds] <;> and_intros <;> first | omega | assumption | exact rfl | trivial | exact pl_ds _ _ _ | exact pl_st3 trivial (pl_pl _) (pl_pl _) | exact fun _ _ => trivial)) (by exact congrArg (t2 · _) (dsf_of rfl rfl rfl fun _ => rfl)) (by exact sc_t2 (sc_ds _ _ _ _) trivial))
  obtain ⟨N, rfl⟩ : ∃ N : Nat, n = N := ⟨n.toNat, by simp at hc; omega⟩
  have hN : 1 ≤ N ∧ N ≤ 16 := by simp at hc; omega
  have e : bandR N = t2 (ds_ N (fillF (fun i => (i + 1) % N) N) (backTo (fillF (fun i => (i + 1) % N) N) N)) (.i .i64 0) := by unfold bandR; rw [if_pos (by omega)]; rfl
  refine WP.rw ?_
  refine WPL.run T false 1 tok (by rfl) (by first | trivial | (simp only [Int.toNat_natCast, List.nil_append, List.cons_append, List.append_nil, AllP, plE, InR, Root.holds] <;> and_intros <;> first | omega | assumption | exact rfl | trivial | exact pl_ds _ _ _ | exact pl_st3 trivial (pl_pl _) (pl_pl _) | exact fun _ _ => trivial)) ?_
  refine WPL.call (star_fn N hN.1 hN.2) (by rfl) (by rfl) (by rfl) (by simp [Sc, sc_pl, sc_ds, pl_ne, ds_ne]) ?_
  refine WPL.fin T false tok (by rfl) (by first | trivial | (simp only [Int.toNat_natCast, List.nil_append, List.cons_append, List.append_nil, AllP, plE, InR, Root.holds] <;> and_intros <;> first | omega | assumption | exact rfl | trivial | exact pl_ds _ _ _ | exact pl_st3 trivial (pl_pl _) (pl_pl _) | exact fun _ _ => trivial)) ?_
  refine WP.rw ?_
  refine WPL.run T false 3 tok (by rfl) (by first | trivial | (simp only [Int.toNat_natCast, List.nil_append, List.cons_append, List.append_nil, AllP, plE, InR, Root.holds] <;> and_intros <;> first | omega | assumption | exact rfl | trivial | exact pl_ds _ _ _ | exact pl_st3 trivial (pl_pl _) (pl_pl _) | exact fun _ _ => trivial)) ?_
  refine WPL.call (back_fn _ N hN.2 (turn_lt N)) (by rfl) (by rfl) (by rfl) (by simp [Sc, sc_pl, sc_ds, pl_ne, ds_ne]) ?_
  refine WPL.fin T false tok (by rfl) (by first | trivial | (simp only [Int.toNat_natCast, List.nil_append, List.cons_append, List.append_nil, AllP, plE, InR, Root.holds] <;> and_intros <;> first | omega | assumption | exact rfl | trivial | exact pl_ds _ _ _ | exact pl_st3 trivial (pl_pl _) (pl_pl _) | exact fun _ _ => trivial)) ?_
  refine WP.rs T false tok (by rfl) (by first | trivial | (simp only [Int.toNat_natCast, List.nil_append, List.cons_append, List.append_nil, AllP, plE, InR, Root.holds] <;> and_intros <;> first | omega | assumption | exact rfl | trivial | exact pl_ds _ _ _ | exact pl_st3 trivial (pl_pl _) (pl_pl _) | exact fun _ _ => trivial)) ?_
  rw [e]
  exact WP.ret (Ends.val (by rfl) (by first | trivial | (simp only [Int.toNat_natCast, List.nil_append, List.cons_append, List.append_nil, AllP, plE, InR, Root.holds] <;> and_intros <;> first | omega | assumption | exact rfl | trivial | exact pl_ds _ _ _ | exact pl_st3 trivial (pl_pl _) (pl_pl _) | exact fun _ _ => trivial)) (by exact congrArg (t2 · _) (dsf_of rfl rfl rfl fun _ => rfl)) (by exact sc_t2 (sc_ds _ _ _ _) trivial))

theorem bandR_form (n : Int) : ∃ m b w c, bandR n = t2 (ds_ m b w) (.i .i64 c) := by
  unfold bandR; split <;> exact ⟨_, _, _, _, rfl⟩

theorem law_BandDessin (n : Int) : FnP Try.prog 9 [.i .i64 n] (.b true) := by
  obtain ⟨m, b, w, c, e⟩ := bandR_form n
  have h1 := specBand_fn n
  have h2 := implBand_fn n
  rw [e] at h1 h2
  refine FnS.into T tok Try.func9 (by rfl) rfl rfl rfl (by simp) ?_
  refine WP.rs T false tok (by rfl) (by first | trivial | (simp only [Int.toNat_natCast, List.nil_append, List.cons_append, List.append_nil, AllP, plE, InR, Root.holds] <;> and_intros <;> first | omega | assumption | exact rfl | trivial | exact pl_ds _ _ _ | exact pl_st3 trivial (pl_pl _) (pl_pl _) | exact fun _ _ => trivial)) ?_
  refine WP.rw ?_
  refine WPL.run T false 1 tok (by rfl) (by first | trivial | (simp only [Int.toNat_natCast, List.nil_append, List.cons_append, List.append_nil, AllP, plE, InR, Root.holds] <;> and_intros <;> first | omega | assumption | exact rfl | trivial | exact pl_ds _ _ _ | exact pl_st3 trivial (pl_pl _) (pl_pl _) | exact fun _ _ => trivial)) ?_
  refine WPL.call (h1) (by rfl) (by rfl) (by rfl) (by simp [Sc, sc_pl, sc_ds, pl_ne, ds_ne]) ?_
  refine WPL.fin T false tok (by rfl) (by first | trivial | (simp only [Int.toNat_natCast, List.nil_append, List.cons_append, List.append_nil, AllP, plE, InR, Root.holds] <;> and_intros <;> first | omega | assumption | exact rfl | trivial | exact pl_ds _ _ _ | exact pl_st3 trivial (pl_pl _) (pl_pl _) | exact fun _ _ => trivial)) ?_
  refine WP.rw ?_
  refine WPL.run T false 1 tok (by rfl) (by first | trivial | (simp only [Int.toNat_natCast, List.nil_append, List.cons_append, List.append_nil, AllP, plE, InR, Root.holds] <;> and_intros <;> first | omega | assumption | exact rfl | trivial | exact pl_ds _ _ _ | exact pl_st3 trivial (pl_pl _) (pl_pl _) | exact fun _ _ => trivial)) ?_
  refine WPL.call (h2) (by rfl) (by rfl) (by rfl) (by simp [Sc, sc_pl, sc_ds, pl_ne, ds_ne]) ?_
  refine WPL.fin T false tok (by rfl) (by first | trivial | (simp only [Int.toNat_natCast, List.nil_append, List.cons_append, List.append_nil, AllP, plE, InR, Root.holds] <;> and_intros <;> first | omega | assumption | exact rfl | trivial | exact pl_ds _ _ _ | exact pl_st3 trivial (pl_pl _) (pl_pl _) | exact fun _ _ => trivial)) ?_
  refine WP.seq ?_
  refine WP.rw ?_
  refine WPL.run T false 2 tok (by rfl) (by first | trivial | (simp only [Int.toNat_natCast, List.nil_append, List.cons_append, List.append_nil, AllP, plE, InR, Root.holds] <;> and_intros <;> first | omega | assumption | exact rfl | trivial | exact pl_ds _ _ _ | exact pl_st3 trivial (pl_pl _) (pl_pl _) | exact fun _ _ => trivial)) ?_
  refine WPL.call (eqDessin_same m b w) (by rfl) (by rfl) (by rfl) (by simp [Sc, sc_pl, sc_ds, pl_ne, ds_ne]) ?_
  refine WPL.fin T false tok (by rfl) (by first | trivial | (simp only [Int.toNat_natCast, List.nil_append, List.cons_append, List.append_nil, AllP, plE, InR, Root.holds] <;> and_intros <;> first | omega | assumption | exact rfl | trivial | exact pl_ds _ _ _ | exact pl_st3 trivial (pl_pl _) (pl_pl _) | exact fun _ _ => trivial)) ?_
  refine WP.cond (by rfl) (fun hc => ?_) (fun hc => WP.skip ?_)
  · simp at hc
  · refine WP.rs T false tok (by rfl) (by first | trivial | (simp only [Int.toNat_natCast, List.nil_append, List.cons_append, List.append_nil, AllP, plE, InR, Root.holds] <;> and_intros <;> first | omega | assumption | exact rfl | trivial | exact pl_ds _ _ _ | exact pl_st3 trivial (pl_pl _) (pl_pl _) | exact fun _ _ => trivial)) ?_
    exact WP.ret (Ends.val (by rfl) (by first | trivial | (simp only [Int.toNat_natCast, List.nil_append, List.cons_append, List.append_nil, AllP, plE, InR, Root.holds] <;> and_intros <;> first | omega | assumption | exact rfl | trivial | exact pl_ds _ _ _ | exact pl_st3 trivial (pl_pl _) (pl_pl _) | exact fun _ _ => trivial)) (by rfl) (by trivial))

end Go.Proofs.Ytjkojpmocgnkhaa
