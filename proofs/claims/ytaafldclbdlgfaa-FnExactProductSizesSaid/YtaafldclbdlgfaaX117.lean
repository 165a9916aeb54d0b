import Derived.Test.YtaafldclbdlgfaaX116
import Derived.Test.YtaafldclbdlgfaaX16
/- Sizes of products: the law. -/
namespace Go.Proofs.Ytaafldclbdlgfaa
open Go.RowKit DM
set_option linter.unusedSimpArgs false
set_option linter.unusedVariables false
set_option maxRecDepth 100000
set_option maxHeartbeats 1000000

theorem law_ProductSizes (n : Int) (b w : Nat → Nat) (_hn : -9223372036854775808 ≤ n ∧ n ≤ 9223372036854775807) (hb : ∀ i, b i < 256) (hw : ∀ i, w i < 256) (n' : Int) (b' w' : Nat → Nat) (_hn' : -9223372036854775808 ≤ n' ∧ n' ≤ 9223372036854775807) (hb' : ∀ i, b' i < 256) (hw' : ∀ i, w' i < 256) : FnP Try.prog 7 [ds_ n b w, ds_ n' b' w'] (.b true) := by
  have h1 := specProductSizes_fn n (lim b) (lim w) n' (lim b') (lim w') (lim_lt hb) (lim_lt hw) (lim_lt hb') (lim_lt hw')
  have h2 := implProductSizes_fn n (lim b) (lim w) n' (lim b') (lim w') (lim_lt hb) (lim_lt hw) (lim_lt hb') (lim_lt hw')
  cases hc : bothB n (lim b) (lim w) n' (lim b') (lim w')
  · have e : szT n (lim b) (lim w) n' (lim b') (lim w') = (t2 .ns (.i .i64 1), []) := by unfold szT; rw [hc]; rfl
    rw [e] at h1 h2
    refine FnS.into T tok Try.func7 (by rfl) rfl rfl rfl (by simp) ?_
    refine WP.rs T false tok (by rfl) (by exact byObl) ?_
    refine WP.seq ?_
    refine WP.da (by kernel_rfl) 8 (by kernel_rfl) ?_
    refine WA.takes T false tok [0, 2] (f' := 8) (by kernel_rfl) (by rfl) (by rfl) (by rfl) (by exact byObl) (by rfl) (by rfl) ?_
    refine WA.all [1] (by kernel_rfl) (by simp) ?_; intro i' hi'; simp only [List.mem_cons, List.not_mem_nil, or_false] at hi'
    subst hi'
    refine ⟨_, _, _, rfl, by rfl, by rfl, MK.callP (toDessin_fn n b w) (by rfl) (by simp [Sc, sc_pl, sc_ds, pl_ne, ds_ne]), ?_⟩
    refine WA.all [3] (by kernel_rfl) (by simp) ?_; intro i' hi'; simp only [List.mem_cons, List.not_mem_nil, or_false] at hi'
    subst hi'
    refine ⟨_, _, _, rfl, by rfl, by rfl, MK.callP (toDessin_fn n' b' w') (by rfl) (by simp [Sc, sc_pl, sc_ds, pl_ne, ds_ne]), ?_⟩
    refine WA.all [4] (by kernel_rfl) (by simp) ?_; intro i' hi'; simp only [List.mem_cons, List.not_mem_nil, or_false] at hi'
    subst hi'
    refine ⟨_, _, _, rfl, by rfl, by rfl, MK.call [] (t2 .ns (.i .i64 1)) (h1) (trivial) (by rfl) (by exact .inl rfl) (by rfl) (by exact byArgs) (by simp [Sc, sc_pl, sc_ds]) (by exact byAllc) (by exact ren_t2 ⟨rfl, trivial⟩ ⟨rfl, trivial⟩) (by exact bySc) (by rfl), ?_⟩
    refine WA.move 5 (by rfl) (by first | exact .inl rfl | exact .inr rfl) (by kernel_rfl) (by kernel_rfl) (by rfl) (by rfl) ?_
    refine WA.extract 6 (by rfl) rfl (by rfl) (by rfl) (by kernel_rfl) (by kernel_rfl) (by rfl) (by rfl) ?_
    refine WA.extract 7 (by rfl) rfl (by rfl) (by rfl) (by kernel_rfl) (by kernel_rfl) (by rfl) (by rfl) ?_
    refine WA.tail (by rfl) (by rfl) (by kernel_rfl) ?_
    refine WPL.fin T false tok (by rfl) (by exact byObl) ?_
    refine noPan ?_
    refine WP.seq ?_
    refine WP.da (by kernel_rfl) 8 (by kernel_rfl) ?_
    refine WA.takes T false tok [0, 2] (f' := 8) (by kernel_rfl) (by rfl) (by rfl) (by rfl) (by exact byObl) (by rfl) (by rfl) ?_
    refine WA.all [1] (by kernel_rfl) (by simp) ?_; intro i' hi'; simp only [List.mem_cons, List.not_mem_nil, or_false] at hi'
    subst hi'
    refine ⟨_, _, _, rfl, by rfl, by rfl, MK.callP (toDessin_fn n b w) (by rfl) (by simp [Sc, sc_pl, sc_ds, pl_ne, ds_ne]), ?_⟩
    refine WA.all [3] (by kernel_rfl) (by simp) ?_; intro i' hi'; simp only [List.mem_cons, List.not_mem_nil, or_false] at hi'
    subst hi'
    refine ⟨_, _, _, rfl, by rfl, by rfl, MK.callP (toDessin_fn n' b' w') (by rfl) (by simp [Sc, sc_pl, sc_ds, pl_ne, ds_ne]), ?_⟩
    refine WA.all [4] (by kernel_rfl) (by simp) ?_; intro i' hi'; simp only [List.mem_cons, List.not_mem_nil, or_false] at hi'
    subst hi'
    refine ⟨_, _, _, rfl, by rfl, by rfl, MK.call [] (t2 .ns (.i .i64 1)) (h2) (trivial) (by rfl) (by exact .inl rfl) (by rfl) (by exact byArgs) (by simp [Sc, sc_pl, sc_ds]) (by exact byAllc) (by exact ren_t2 ⟨rfl, trivial⟩ ⟨rfl, trivial⟩) (by exact bySc) (by rfl), ?_⟩
    refine WA.move 5 (by rfl) (by first | exact .inl rfl | exact .inr rfl) (by kernel_rfl) (by kernel_rfl) (by rfl) (by rfl) ?_
    refine WA.extract 6 (by rfl) rfl (by rfl) (by rfl) (by kernel_rfl) (by kernel_rfl) (by rfl) (by rfl) ?_
    refine WA.extract 7 (by rfl) rfl (by rfl) (by rfl) (by kernel_rfl) (by kernel_rfl) (by rfl) (by rfl) ?_
    refine WA.tail (by rfl) (by rfl) (by kernel_rfl) ?_
    refine WPL.fin T false tok (by rfl) (by exact byObl) ?_
    refine noPan ?_
    refine WP.seq ?_
    refine WP.rw ?_
    refine WPL.run T false 2 tok (by rfl) (by exact byObl) ?_
    refine WPL.call (eqS_nil) (by rfl) (by rfl) (by rfl) (by simp [Sc, sc_pl, sc_ds, pl_ne, ds_ne]) ?_
    refine WPL.fin T false tok (by rfl) (by exact byObl) ?_
    refine WP.cond (by rfl) (fun h => ?_) (fun h => WP.skip ?_)
    · cases h
    refine WP.rs T false tok (by rfl) (by exact byObl) ?_
    refine WP.rw ?_
    refine WPL.run T false 2 tok (by rfl) (by exact byObl) ?_
    refine WPL.call (markS_nil 1) (by rfl) (by rfl) (by rfl) (by simp [Sc, sc_pl, sc_ds, pl_ne, ds_ne]) ?_
    refine WPL.fin T false tok (by rfl) (by exact byObl) ?_
    refine WP.rs T false tok (by rfl) (by exact byObl) ?_
    refine WP.rw ?_
    refine WPL.run T false 2 tok (by rfl) (by exact byObl) ?_
    refine WPL.call (heldS_nil 1) (by rfl) (by rfl) (by rfl) (by simp [Sc, sc_pl, sc_ds, pl_ne, ds_ne]) ?_
    refine WPL.fin T false tok (by rfl) (by exact byObl) ?_
    refine WP.seq ?_
    refine WP.rs T false tok (by rfl) (by exact byObl) ?_
    refine WP.cond (by rfl) (fun h => ?_) (fun h => WP.skip ?_)
    · cases h
    refine WP.seq ?_
    refine WP.rs T false tok (by rfl) (by exact byObl) ?_
    refine WP.cond (by rfl) (fun h => ?_) (fun h => WP.skip ?_)
    · cases h
    refine WP.seq ?_
    refine WP.da (by kernel_rfl) 8 (by kernel_rfl) ?_
    refine WA.takes T false tok [0, 2] (f' := 8) (by kernel_rfl) (by rfl) (by rfl) (by rfl) (by exact byObl) (by rfl) (by rfl) ?_
    refine WA.all [1] (by kernel_rfl) (by simp) ?_; intro i' hi'; simp only [List.mem_cons, List.not_mem_nil, or_false] at hi'
    subst hi'
    refine ⟨_, _, _, rfl, by rfl, by rfl, MK.callP (toDessin_fn n b w) (by rfl) (by simp [Sc, sc_pl, sc_ds, pl_ne, ds_ne]), ?_⟩
    refine WA.all [3] (by kernel_rfl) (by simp) ?_; intro i' hi'; simp only [List.mem_cons, List.not_mem_nil, or_false] at hi'
    subst hi'
    refine ⟨_, _, _, rfl, by rfl, by rfl, MK.callP (toDessin_fn n' b' w') (by rfl) (by simp [Sc, sc_pl, sc_ds, pl_ne, ds_ne]), ?_⟩
    refine WA.all [4] (by kernel_rfl) (by simp) ?_; intro i' hi'; simp only [List.mem_cons, List.not_mem_nil, or_false] at hi'
    subst hi'
    refine ⟨_, _, _, rfl, by rfl, by rfl, MK.call [] (t2 .ns (.i .i64 1)) (h2) (trivial) (by rfl) (by exact .inl rfl) (by rfl) (by exact byArgs) (by simp [Sc, sc_pl, sc_ds]) (by exact byAllc) (by exact ren_t2 ⟨rfl, trivial⟩ ⟨rfl, trivial⟩) (by exact bySc) (by rfl), ?_⟩
    refine WA.move 5 (by rfl) (by first | exact .inl rfl | exact .inr rfl) (by kernel_rfl) (by kernel_rfl) (by rfl) (by rfl) ?_
    refine WA.extract 6 (by rfl) rfl (by rfl) (by rfl) (by kernel_rfl) (by kernel_rfl) (by rfl) (by rfl) ?_
    refine WA.extract 7 (by rfl) rfl (by rfl) (by rfl) (by kernel_rfl) (by kernel_rfl) (by rfl) (by rfl) ?_
    refine WA.tail (by rfl) (by rfl) (by kernel_rfl) ?_
    refine WPL.fin T false tok (by rfl) (by exact byObl) ?_
    refine noPan ?_
    refine WP.seq ?_
    refine WP.rw ?_
    refine WPL.run T false 2 tok (by rfl) (by exact byObl) ?_
    refine WPL.call (eqS_nil) (by rfl) (by rfl) (by rfl) (by simp [Sc, sc_pl, sc_ds, pl_ne, ds_ne]) ?_
    refine WPL.fin T false tok (by rfl) (by exact byObl) ?_
    refine WP.cond (by rfl) (fun h => ?_) (fun h => WP.skip ?_)
    · cases h
    refine WP.rs T false tok (by rfl) (by exact byObl) ?_
    refine WP.rw ?_
    refine WPL.run T false 2 tok (by rfl) (by exact byObl) ?_
    refine WPL.call (heldS_nil 1) (by rfl) (by rfl) (by rfl) (by simp [Sc, sc_pl, sc_ds, pl_ne, ds_ne]) ?_
    refine WPL.fin T false tok (by rfl) (by exact byObl) ?_
    refine WP.seq ?_
    refine WP.rs T false tok (by rfl) (by exact byObl) ?_
    refine WP.cond (by rfl) (fun h => ?_) (fun h => WP.skip ?_)
    · cases h
    refine WP.seq ?_
    refine WP.rs T false tok (by rfl) (by exact byObl) ?_
    refine WP.cond (by rfl) (fun h => ?_) (fun h => WP.skip ?_)
    · cases h
    refine WP.rs T false tok (by rfl) (by exact byObl) ?_
    exact WP.ret (Ends.val (by rfl) (by exact byObl) (by rfl) (by trivial))
  · have hcc := hc
    unfold bothB at hc
    obtain ⟨hd1, hd2⟩ := Bool.and_eq_true_iff.1 hc
    obtain ⟨N, rfl, hD⟩ := des_of_B hd1
    obtain ⟨M, rfl, hE⟩ := des_of_B hd2
    have e : szT N (lim b) (lim w) M (lim b') (lim w') = (t2 (.sl 0 0 (szR N M (lim b) (lim w) (lim b') (lim w')).length 1) (.i .i64 0), [.row 2 (szR N M (lim b) (lim w) (lim b') (lim w')).length 1 (numsF (szR N M (lim b) (lim w) (lim b') (lim w')))]) := by unfold szT; rw [hcc]; rfl
    rw [e] at h1 h2
    have hlen : (szR N M (lim b) (lim w) (lim b') (lim w')).length ≤ 256 := by unfold szR; rw [srtN_len]; exact sz_len _ hE.le hD.le
    generalize szR N M (lim b) (lim w) (lim b') (lim w') = O at *
    have hmark := markS_fn O.length 1 (fun j => ((O.getD j 0 : Nat) : Int)) (by omega) (by omega)
    have hheld := heldS_fn O.length 1 (by omega) (by omega)
    have heq := eqS_fn O.length (fun j => ((O.getD j 0 : Nat) : Int)) (by omega)
    refine FnS.into T tok Try.func7 (by rfl) rfl rfl rfl (by simp) ?_
    refine WP.rs T false tok (by rfl) (by exact byObl) ?_
    refine WP.seq ?_
    refine WP.da (by kernel_rfl) 8 (by kernel_rfl) ?_
    refine WA.takes T false tok [0, 2] (f' := 8) (by kernel_rfl) (by rfl) (by rfl) (by rfl) (by exact byObl) (by rfl) (by rfl) ?_
    refine WA.all [1] (by kernel_rfl) (by simp) ?_; intro i' hi'; simp only [List.mem_cons, List.not_mem_nil, or_false] at hi'
    subst hi'
    refine ⟨_, _, _, rfl, by rfl, by rfl, MK.callP (toDessin_fn N b w) (by rfl) (by simp [Sc, sc_pl, sc_ds, pl_ne, ds_ne]), ?_⟩
    refine WA.all [3] (by kernel_rfl) (by simp) ?_; intro i' hi'; simp only [List.mem_cons, List.not_mem_nil, or_false] at hi'
    subst hi'
    refine ⟨_, _, _, rfl, by rfl, by rfl, MK.callP (toDessin_fn M b' w') (by rfl) (by simp [Sc, sc_pl, sc_ds, pl_ne, ds_ne]), ?_⟩
    refine WA.all [4] (by kernel_rfl) (by simp) ?_; intro i' hi'; simp only [List.mem_cons, List.not_mem_nil, or_false] at hi'
    subst hi'
    refine ⟨_, _, _, rfl, by rfl, by rfl, MK.call [] (t2 (.sl 2 0 O.length 1) (.i .i64 0)) (h1) (trivial) (by rfl) (by exact .inl rfl) (by rfl) (by exact byArgs) (by simp [Sc, sc_pl, sc_ds]) (by exact byAllc) (by exact ren_t2 rfl ⟨rfl, trivial⟩) (by exact bySc) (by rfl), ?_⟩
    refine WA.move 5 (by rfl) (by first | exact .inl rfl | exact .inr rfl) (by kernel_rfl) (by kernel_rfl) (by rfl) (by rfl) ?_
    refine WA.extract 6 (by rfl) rfl (by rfl) (by rfl) (by kernel_rfl) (by kernel_rfl) (by rfl) (by rfl) ?_
    refine WA.extract 7 (by rfl) rfl (by rfl) (by rfl) (by kernel_rfl) (by kernel_rfl) (by rfl) (by rfl) ?_
    refine WA.tail (by rfl) (by rfl) (by kernel_rfl) ?_
    refine WPL.fin T false tok (by rfl) (by exact byObl) ?_
    refine noPan ?_
    refine WP.seq ?_
    refine WP.da (by kernel_rfl) 8 (by kernel_rfl) ?_
    refine WA.takes T false tok [0, 2] (f' := 8) (by kernel_rfl) (by rfl) (by rfl) (by rfl) (by exact byObl) (by rfl) (by rfl) ?_
    refine WA.all [1] (by kernel_rfl) (by simp) ?_; intro i' hi'; simp only [List.mem_cons, List.not_mem_nil, or_false] at hi'
    subst hi'
    refine ⟨_, _, _, rfl, by rfl, by rfl, MK.callP (toDessin_fn N b w) (by rfl) (by simp [Sc, sc_pl, sc_ds, pl_ne, ds_ne]), ?_⟩
    refine WA.all [3] (by kernel_rfl) (by simp) ?_; intro i' hi'; simp only [List.mem_cons, List.not_mem_nil, or_false] at hi'
    subst hi'
    refine ⟨_, _, _, rfl, by rfl, by rfl, MK.callP (toDessin_fn M b' w') (by rfl) (by simp [Sc, sc_pl, sc_ds, pl_ne, ds_ne]), ?_⟩
    refine WA.all [4] (by kernel_rfl) (by simp) ?_; intro i' hi'; simp only [List.mem_cons, List.not_mem_nil, or_false] at hi'
    subst hi'
    refine ⟨_, _, _, rfl, by rfl, by rfl, MK.call [] (t2 (.sl 3 0 O.length 1) (.i .i64 0)) (h2) (trivial) (by rfl) (by exact .inl rfl) (by rfl) (by exact byArgs) (by simp [Sc, sc_pl, sc_ds]) (by exact byAllc) (by exact ren_t2 rfl ⟨rfl, trivial⟩) (by exact bySc) (by rfl), ?_⟩
    refine WA.move 5 (by rfl) (by first | exact .inl rfl | exact .inr rfl) (by kernel_rfl) (by kernel_rfl) (by rfl) (by rfl) ?_
    refine WA.extract 6 (by rfl) rfl (by rfl) (by rfl) (by kernel_rfl) (by kernel_rfl) (by rfl) (by rfl) ?_
    refine WA.extract 7 (by rfl) rfl (by rfl) (by rfl) (by kernel_rfl) (by kernel_rfl) (by rfl) (by rfl) ?_
    refine WA.tail (by rfl) (by rfl) (by kernel_rfl) ?_
    refine WPL.fin T false tok (by rfl) (by exact byObl) ?_
    refine noPan ?_
    refine WP.seq ?_
    refine WP.rw ?_
    refine WPL.run T false 2 tok (by rfl) (by exact byObl) ?_
    refine WPL.callR [3, 2] (heq) (by rfl) (LeAll.cons (by rfl) (by first | with_reducible exact Root.Le.refl _ | with_reducible exact le_dead | (skip; done) | exact byLeq) (by exact byCon) (LeAll.cons (by rfl) (by first | with_reducible exact Root.Le.refl _ | with_reducible exact le_dead | (skip; done) | exact byLeq) (by exact byCon) (trivial))) (by exact byArgs) (by rfl) (by rfl) (by simp [Sc, sc_pl, sc_ds]) ?_
    refine WPL.fin T false tok (by rfl) (by exact byObl) ?_
    refine WP.cond (by rfl) (fun h => ?_) (fun h => WP.skip ?_)
    · cases h
    refine WP.rs T false tok (by rfl) (by exact byObl) ?_
    refine WP.rw ?_
    refine WPL.run T false 2 tok (by rfl) (by exact byObl) ?_
    refine WPL.callN [3] (.i .i64 ((1 + O.length : Nat) : Int)) (hmark) (LeAll.cons (by rfl) (by first | with_reducible exact Root.Le.refl _ | with_reducible exact le_dead | (skip; done) | exact byLeq) (by exact byCon) (trivial)) (by rfl) (by rfl) (by exact byArgs) (by rfl) (by rfl) (by simp [Sc, sc_pl, sc_ds]) (by exact byAllc) (⟨rfl, trivial⟩) (by exact bySc) rfl ?_
    refine WPL.fin T false tok (by rfl) (by exact byObl) ?_
    refine WP.rs T false tok (by rfl) (by exact byObl) ?_
    refine WP.rw ?_
    refine WPL.run T false 2 tok (by rfl) (by exact byObl) ?_
    refine WPL.callR [3] (hheld) (by rfl) (LeAll.cons (by rfl) (by first | with_reducible exact Root.Le.refl _ | with_reducible exact le_dead | (skip; done) | exact byLeq) (by exact byCon) (trivial)) (by exact byArgs) (by rfl) (by rfl) (by simp [Sc, sc_pl, sc_ds]) ?_
    refine WPL.fin T false tok (by rfl) (by exact byObl) ?_
    refine WP.seq ?_
    refine WP.rs T false tok (by rfl) (by exact byObl) ?_
    refine WP.cond (by rfl) (fun h => ?_) (fun h => WP.skip ?_)
    · have h := of_decide_eq_true h; omega
    refine WP.seq ?_
    refine WP.rs T false tok (by rfl) (by exact byObl) ?_
    refine WP.cond (by rfl) (fun h => ?_) (fun h => WP.skip ?_)
    · simp at h
    refine WP.seq ?_
    refine WP.da (by kernel_rfl) 8 (by kernel_rfl) ?_
    refine WA.takes T false tok [0, 2] (f' := 8) (by kernel_rfl) (by rfl) (by rfl) (by rfl) (by exact byObl) (by rfl) (by rfl) ?_
    refine WA.all [1] (by kernel_rfl) (by simp) ?_; intro i' hi'; simp only [List.mem_cons, List.not_mem_nil, or_false] at hi'
    subst hi'
    refine ⟨_, _, _, rfl, by rfl, by rfl, MK.callP (toDessin_fn N b w) (by rfl) (by simp [Sc, sc_pl, sc_ds, pl_ne, ds_ne]), ?_⟩
    refine WA.all [3] (by kernel_rfl) (by simp) ?_; intro i' hi'; simp only [List.mem_cons, List.not_mem_nil, or_false] at hi'
    subst hi'
    refine ⟨_, _, _, rfl, by rfl, by rfl, MK.callP (toDessin_fn M b' w') (by rfl) (by simp [Sc, sc_pl, sc_ds, pl_ne, ds_ne]), ?_⟩
    refine WA.all [4] (by kernel_rfl) (by simp) ?_; intro i' hi'; simp only [List.mem_cons, List.not_mem_nil, or_false] at hi'
    subst hi'
    refine ⟨_, _, _, rfl, by rfl, by rfl, MK.call [] (t2 (.sl 4 0 O.length 1) (.i .i64 0)) (h2) (trivial) (by rfl) (by exact .inl rfl) (by rfl) (by exact byArgs) (by simp [Sc, sc_pl, sc_ds]) (by exact byAllc) (by exact ren_t2 rfl ⟨rfl, trivial⟩) (by exact bySc) (by rfl), ?_⟩
    refine WA.move 5 (by rfl) (by first | exact .inl rfl | exact .inr rfl) (by kernel_rfl) (by kernel_rfl) (by rfl) (by rfl) ?_
    refine WA.extract 6 (by rfl) rfl (by rfl) (by rfl) (by kernel_rfl) (by kernel_rfl) (by rfl) (by rfl) ?_
    refine WA.extract 7 (by rfl) rfl (by rfl) (by rfl) (by kernel_rfl) (by kernel_rfl) (by rfl) (by rfl) ?_
    refine WA.tail (by rfl) (by rfl) (by kernel_rfl) ?_
    refine WPL.fin T false tok (by rfl) (by exact byObl) ?_
    refine noPan ?_
    refine WP.seq ?_
    refine WP.rw ?_
    refine WPL.run T false 2 tok (by rfl) (by exact byObl) ?_
    refine WPL.callR [4, 2] (heq) (by rfl) (LeAll.cons (by rfl) (by first | with_reducible exact Root.Le.refl _ | with_reducible exact le_dead | (skip; done) | exact byLeq) (by exact byCon) (LeAll.cons (by rfl) (by first | with_reducible exact Root.Le.refl _ | with_reducible exact le_dead | (skip; done) | exact byLeq) (by exact byCon) (trivial))) (by exact byArgs) (by rfl) (by rfl) (by simp [Sc, sc_pl, sc_ds]) ?_
    refine WPL.fin T false tok (by rfl) (by exact byObl) ?_
    refine WP.cond (by rfl) (fun h => ?_) (fun h => WP.skip ?_)
    · cases h
    refine WP.rs T false tok (by rfl) (by exact byObl) ?_
    refine WP.rw ?_
    refine WPL.run T false 2 tok (by rfl) (by exact byObl) ?_
    refine WPL.callR [3] (hheld) (by rfl) (LeAll.cons (by rfl) (by first | with_reducible exact Root.Le.refl _ | with_reducible exact le_dead | (skip; done) | exact byLeq) (by exact byCon) (trivial)) (by exact byArgs) (by rfl) (by rfl) (by simp [Sc, sc_pl, sc_ds]) ?_
    refine WPL.fin T false tok (by rfl) (by exact byObl) ?_
    refine WP.seq ?_
    refine WP.rs T false tok (by rfl) (by exact byObl) ?_
    refine WP.cond (by rfl) (fun h => ?_) (fun h => WP.skip ?_)
    · have h := of_decide_eq_true h; omega
    refine WP.seq ?_
    refine WP.rs T false tok (by rfl) (by exact byObl) ?_
    refine WP.cond (by rfl) (fun h => ?_) (fun h => WP.skip ?_)
    · simp at h
    refine WP.rs T false tok (by rfl) (by exact byObl) ?_
    exact WP.ret (Ends.val (by rfl) (by exact byObl) (by rfl) (by trivial))

end Go.Proofs.Ytaafldclbdlgfaa
