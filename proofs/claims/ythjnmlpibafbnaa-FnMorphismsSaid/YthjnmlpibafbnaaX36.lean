import Derived.Test.YthjnmlpibafbnaaX34
namespace Go.Proofs.Ythjnmlpibafbnaa
open Go.RowKit DM
set_option linter.unusedSimpArgs false
set_option linter.unusedVariables false
set_option maxRecDepth 100000
set_option maxHeartbeats 1000000
theorem specQuotient_fn (n : Int) (b w p : Nat → Nat) (hb : ∀ i, b i < 256) (hw : ∀ i, w i < 256) (hpb : ∀ i, p i < 256) : FnS Try.prog 11 [ds_ n b w, pl p] [] (fun r m' => r = (quR n b w p).1 ∧ m' = (quR n b w p).2) := by
  cases hc : desB n b w
  · have e : quR n b w p = (t3 (ds_ 0 (fun _ => 0) (fun _ => 0)) .ns (.i .i64 1), []) := by unfold quR; rw [hc]; rfl
    rw [e]
    refine FnS.intoN T tok Try.func11 (by rfl) rfl rfl rfl (by simp) ?_
    refine rS ?_
    refine WP.seq (WP.block ?_)
    refine WP.rw ?_
    refine rU 1 ?_
    refine cA (hc ▸ l01Is_fn n b w hb hw) ?_
    refine rU 5 ?_
    refine WPL.skip (by rfl) (by rfl) ?_
    refine rF ?_
    refine WP.cond (by rfl) (fun h => ?_) (fun h => ?_)
    · refine rS ?_
      exact WP.ret (Ends.new [] (by rfl) (by exact byObl) leZ rfl rfl (ren_t3 ⟨rfl, sc_ds _ _ _ _⟩ ⟨rfl, trivial⟩ ⟨rfl, trivial⟩) (sc_t3 (sc_ds _ _ _ _) trivial trivial))
    · cases h
  · obtain ⟨N, rfl, hD⟩ := des_of_B hc
    cases hp : permB p (N : Int)
    · have e : quR N b w p = (t3 (ds_ 0 (fun _ => 0) (fun _ => 0)) .ns (.i .i64 1), []) := by unfold quR; rw [hc, hp]; rfl
      rw [e]
      refine FnS.intoN T tok Try.func11 (by rfl) rfl rfl rfl (by simp) ?_
      refine rS ?_
      refine WP.seq (WP.block ?_)
      refine WP.rw ?_
      refine rU 1 ?_
      refine cA (hc ▸ l01Is_fn N b w hb hw) ?_
      refine rU 5 ?_
      refine cA (hp ▸ l01Perm_fn p hpb N) ?_
      refine rF ?_
      refine WP.cond (by rfl) (fun h => ?_) (fun h => ?_)
      · refine rS ?_
        exact WP.ret (Ends.new [] (by rfl) (by exact byObl) leZ rfl rfl (ren_t3 ⟨rfl, sc_ds _ _ _ _⟩ ⟨rfl, trivial⟩ ⟨rfl, trivial⟩) (sc_t3 (sc_ds _ _ _ _) trivial trivial))
      · cases h
    · obtain ⟨N', e1, h1, h16, hP⟩ := perm_of_B hp
      obtain rfl : N' = N := by omega
      have hren := l02Rename_fn N' b w p h16 (fun i hi => by have := hD.pb.lt i hi; omega) (fun i hi => by have := hD.pw.lt i hi; omega) (fun i hi => by have := hP.lt i hi; omega)
      cases hE : eqDs N' (renTo p b N') (renTo p w N') N' b w
      · have e : quR N' b w p = (t3 (ds_ 0 (fun _ => 0) (fun _ => 0)) .ns (.i .i64 5), []) := by unfold quR; rw [hc, hp, Int.toNat_natCast, hE]; rfl
        have hne := eq_ds_neq N' (renTo p b N') (renTo p w N') N' b w
        rw [hE] at hne
        rw [e]
        refine FnS.intoN T tok Try.func11 (by rfl) rfl rfl rfl (by simp) ?_
        refine rS ?_
        refine WP.seq (WP.block ?_)
        refine WP.rw ?_
        refine rU 1 ?_
        refine cA (hc ▸ l01Is_fn N' b w hb hw) ?_
        refine rU 5 ?_
        refine cA (hp ▸ l01Perm_fn p hpb N') ?_
        refine rF ?_
        refine WP.cond (by rfl) (fun h => ?_) (fun h => ?_)
        · cases h
        refine WP.seq ?_
        refine WP.da (by kernel_rfl) 6 (by kernel_rfl) ?_
        refine WA.takes T false tok [0, 1, 3] (f' := 3) (by kernel_rfl) (by rfl) (by rfl) (by rfl) (by exact byObl) (by rfl) (by rfl) ?_
        refine WA.all [2] (by kernel_rfl) (by simp) ?_; intro i' hi'; simp only [List.mem_cons, List.not_mem_nil, or_false] at hi'
        subst hi'
        refine ⟨_, _, _, rfl, by rfl, by rfl, MK.callP (hren) (by rfl) (by simp [Sc, sc_pl, sc_ds, pl_ne, ds_ne]), ?_⟩
        refine WA.take (i := 4) (by rfl) (by decide) (by kernel_rfl) (by kernel_rfl) (by kernel_rfl) (by rfl) (by rfl) (ok_eq tok rfl hne) ?_
        refine WA.move 5 (by rfl) (by first | exact .inl rfl | exact .inr rfl) (by kernel_rfl) (by kernel_rfl) (by rfl) (by rfl) ?_
        refine WA.tail (by rfl) (by rfl) (by kernel_rfl) ?_
        refine WPL.nil (noPan ?_)
        refine WP.cond (by rfl) (fun h2 => ?_) (fun h2 => WP.skip ?_)
        · refine rS ?_
          exact WP.ret (Ends.new [] (by rfl) (by exact byObl) leZ rfl rfl (ren_t3 ⟨rfl, sc_ds _ _ _ _⟩ ⟨rfl, trivial⟩ ⟨rfl, trivial⟩) (sc_t3 (sc_ds _ _ _ _) trivial trivial))
        · cases h2
      · have e : quR N' b w p = (t3 (ds_ (cycs p N').length (fillF (hdQ (cycs p N') b) (cycs p N').length) (fillF (hdQ (cycs p N') w) (cycs p N').length)) (.sl 0 0 N' 1) (.i .i64 0), [.row 2 N' 1 (nmF (prtF (cycs p N')))]) := by unfold quR; rw [hc, hp, Int.toNat_natCast, hE]; rfl
        have hne := eq_ds_neq N' (renTo p b N') (renTo p w N') N' b w
        rw [hE] at hne
        rw [e]
        obtain ⟨hcb, hcw⟩ := comm_of h16 hP hE
        have hcyc := l01Cycles_fn p N' h16 hP.lt
        have hok := fun j => (cycs_ok (p := p) h16 hP.lt (j := j))
        have hlen : (cycs p N').length ≤ N' := cyTo_len p N'
        have hhd := fun k (hk : k < (cycs p N').length) => head_lt h16 hP hk
        have hpl := fun x (hx : x < N') => prt_lt h16 hP hx
        have hinv := cyTo_inv h16 hP N' (Nat.le_refl _)
        change OInv N' p N' (cycs p N') _ at hinv
        have hfin : prtF (cycs p N') = ptF (cycs p N') (cycs p N').length 0 := rfl
        generalize cycs p N' = L at *
        refine FnS.intoN T tok Try.func11 (by rfl) rfl rfl rfl (by simp) ?_
        refine rS ?_
        refine WP.seq (WP.block ?_)
        refine WP.rw ?_
        refine rU 1 ?_
        refine cA (hc ▸ l01Is_fn N' b w hb hw) ?_
        refine rU 5 ?_
        refine cA (hp ▸ l01Perm_fn p hpb N') ?_
        refine rF ?_
        refine WP.cond (by rfl) (fun h => ?_) (fun h => ?_)
        · cases h
        refine WP.seq ?_
        refine WP.da (by kernel_rfl) 6 (by kernel_rfl) ?_
        refine WA.takes T false tok [0, 1, 3] (f' := 3) (by kernel_rfl) (by rfl) (by rfl) (by rfl) (by exact byObl) (by rfl) (by rfl) ?_
        refine WA.all [2] (by kernel_rfl) (by simp) ?_; intro i' hi'; simp only [List.mem_cons, List.not_mem_nil, or_false] at hi'
        subst hi'
        refine ⟨_, _, _, rfl, by rfl, by rfl, MK.callP (hren) (by rfl) (by simp [Sc, sc_pl, sc_ds, pl_ne, ds_ne]), ?_⟩
        refine WA.take (i := 4) (by rfl) (by decide) (by kernel_rfl) (by kernel_rfl) (by kernel_rfl) (by rfl) (by rfl) (ok_eq tok rfl hne) ?_
        refine WA.move 5 (by rfl) (by first | exact .inl rfl | exact .inr rfl) (by kernel_rfl) (by kernel_rfl) (by rfl) (by rfl) ?_
        refine WA.tail (by rfl) (by rfl) (by kernel_rfl) ?_
        refine WPL.nil (noPan ?_)
        refine WP.cond (by rfl) (fun h2 => ?_) (fun h2 => WP.skip ?_)
        · cases h2
        refine WP.seq ?_
        refine WP.da (by kernel_rfl) 9 (by kernel_rfl) ?_
        refine WA.takes T false tok [0, 1, 2, 4, 5] (f' := 4) (by kernel_rfl) (by rfl) (by rfl) (by rfl) (by exact byObl) (by rfl) (by rfl) ?_
        refine WA.via (f0 := 0) (l0 := (List.replicate 9 true).toArray) ⟨lst [(2, .p 0 [] 0), (4, .p 1 [] 0), (7, .sl 3 0 L.length 1), (8, .sl 2 0 N' 1)], [.var (ds_ N' b w), .var (ds_ 0 (fun _ => 0) (fun _ => 0)), .row 2 N' 1 (nmF fun _ => 0), .row 36 L.length 1 (rowsF L)]⟩ ?_ (fun key => ?_)
        rotate_left
        · refine WA.all [3, 6] (by kernel_rfl) (by simp) ?_; intro i' hi'; simp only [List.mem_cons, List.not_mem_nil, or_false] at hi'
          rcases hi' with rfl | rfl
          · refine ⟨_, _, _, rfl, by rfl, by rfl, MK.call [] (.sl 3 0 L.length 1) (hcyc) leZ (by rfl) (by exact .inl rfl) (by rfl) (by exact byArgs) (by simp [Sc, sc_pl, sc_ds]) (by exact byAllc) (by exact rfl) (by exact bySc) (by rfl), ?_⟩
            refine WA.move 7 (by rfl) (by first | exact .inl rfl | exact .inr rfl) (by kernel_rfl) (by kernel_rfl) (by rfl) (by rfl) ?_
            refine WA.all [6] (by kernel_rfl) (by simp) ?_; intro i' hi'; simp only [List.mem_cons, List.not_mem_nil, or_false] at hi'
            subst hi'
            refine ⟨_, _, _, rfl, by rfl, by rfl, MK.of tok (wm := false) (by rfl) (by exact byObl) (by rfl) (by exact byObl), ?_⟩
            refine WA.move 8 (by rfl) (by first | exact .inl rfl | exact .inr rfl) (by kernel_rfl) (by kernel_rfl) (by rfl) (by rfl) ?_
            refine WA.cut (tauOf [0, 2, 4, 3]) _ [(2, .p 0 [] 0), (4, .p 1 [] 0), (7, .sl 3 0 L.length 1), (8, .sl 2 0 N' 1)] [.var (ds_ N' b w), .var (ds_ 0 (fun _ => 0) (fun _ => 0)), .row 2 N' 1 (nmF fun _ => 0), .row 36 L.length 1 (rowsF L)] (Nat.le_refl _) (Taken.of [0, 2, 4, 3] (leC (leC (leC (leC leZ)))) rfl rfl) (by exact bySlots) ?_
            exact WA.as (by kernel_rfl) key
          · refine ⟨_, _, _, rfl, by rfl, by rfl, MK.of tok (wm := false) (by rfl) (by exact byObl) (by rfl) (by exact byObl), ?_⟩
            refine WA.all [3] (by kernel_rfl) (by simp) ?_; intro i' hi'; simp only [List.mem_cons, List.not_mem_nil, or_false] at hi'
            subst hi'
            refine ⟨_, _, _, rfl, by rfl, by rfl, MK.call [] (.sl 4 0 L.length 1) (hcyc) leZ (by rfl) (by exact .inl rfl) (by rfl) (by exact byArgs) (by simp [Sc, sc_pl, sc_ds]) (by exact byAllc) (by exact rfl) (by exact bySc) (by rfl), ?_⟩
            refine WA.move 7 (by rfl) (by first | exact .inl rfl | exact .inr rfl) (by kernel_rfl) (by kernel_rfl) (by rfl) (by rfl) ?_
            refine WA.move 8 (by rfl) (by first | exact .inl rfl | exact .inr rfl) (by kernel_rfl) (by kernel_rfl) (by rfl) (by rfl) ?_
            refine WA.cut (tauOf [0, 2, 3, 4]) _ [(2, .p 0 [] 0), (4, .p 1 [] 0), (7, .sl 3 0 L.length 1), (8, .sl 2 0 N' 1)] [.var (ds_ N' b w), .var (ds_ 0 (fun _ => 0) (fun _ => 0)), .row 2 N' 1 (nmF fun _ => 0), .row 36 L.length 1 (rowsF L)] (Nat.le_refl _) (Taken.of [0, 2, 3, 4] (leC (leC (leC (leC leZ)))) rfl rfl) (by exact bySlots) ?_
            exact WA.as (by kernel_rfl) key
        refine WA.tail (by rfl) (by rfl) (by kernel_rfl) ?_
        refine WPL.nil (noPan ?_)
        refine WP.seq ?_
        refine rS ?_
        refine WP.block ?_
        refine WP.loopH (⟨fun i : Nat => i ≤ L.length, fun i => [(2, .p 0 [] 0), (4, .p 1 [] 0), (7, .sl 3 0 L.length 1), (8, .sl 2 0 N' 1), (9, .i .i64 (i : Int))], fun i => [.var (ds_ N' b w), .var (ds_ 0 (fun _ => 0) (fun _ => 0)), .row 2 N' 1 (nmF (ptF L i 0)), .ro L.length 1 (rowsF L)], fun i => L.length - i⟩) (0) (Nat.zero_le _) (gC [0, 1, 2, 3] (LeAll.cons (by rfl) (by first | with_reducible exact Root.Le.refl _ | with_reducible exact le_dead | (exact le_row (Nat.le_refl _) (fun j hj => by rw [pt_zero])) | exact byLeq) (by exact byCon) (LeAll.cons (by rfl) (by first | with_reducible exact Root.Le.refl _ | with_reducible exact le_dead | (exact le_row (Nat.le_refl _) (fun j hj => by rw [pt_zero])) | exact byLeq) (by exact byCon) (LeAll.cons (by rfl) (by first | with_reducible exact Root.Le.refl _ | with_reducible exact le_dead | (exact le_row (Nat.le_refl _) (fun j hj => by rw [pt_zero])) | exact byLeq) (by exact byCon) (LeAll.cons (by rfl) (by first | with_reducible exact Root.Le.refl _ | with_reducible exact le_dead | (exact le_row (Nat.le_refl _) (fun j hj => by rw [pt_zero])) | exact byLeq) (by exact byCon) (leZ)))))) ?_
        intro i hi
        dsimp only at hi
        dsimp only [Hd.at]
        have hli := (hok i).1
        refine WP.seq ?_
        refine rS ?_
        refine WP.cond (by rfl) (fun hc => WP.skip ?_) (fun hc => WP.exit ?_)
        · have hi : i < L.length := by have := of_decide_eq_true hc; omega
          clear hc
          refine WP.seq (WP.block ?_)
          refine rS ?_
          refine WP.block ?_
          refine WP.loopH (⟨fun t : Nat => t ≤ (L.getD i []).length, fun t => [(2, .p 0 [] 0), (4, .p 1 [] 0), (7, .sl 3 0 L.length 1), (8, .sl 2 0 N' 1), (9, .i .i64 (i : Int)), (10, .i .i64 (t : Int))], fun t => [.var (ds_ N' b w), .var (ds_ 0 (fun _ => 0) (fun _ => 0)), .row 2 N' 1 (nmF (ptF L i t)), .ro L.length 1 (rowsF L)], fun t => (L.getD i []).length - t⟩) (0) (Nat.zero_le _) (gC [0, 1, 2, 3] (leC (leC (leC (leC leZ))))) ?_
          intro t ht
          dsimp only at ht
          dsimp only [Hd.at]
          refine WP.seq ?_
          refine rS ?_
          refine WP.cond (by rfl) (fun hc => WP.skip ?_) (fun hc => WP.exit ?_)
          · have ht : t < (L.getD i []).length := by have := of_decide_eq_true hc; simp only [addrAt0, Int.toNat_natCast] at this; omega
            clear hc
            have hx := (hok i).2 _ (getD_mem ht)
            have hst := pt_step hinv.uniq ht
            refine WP.seq (WP.block ?_)
            refine rE ?_
            refine rE ?_
            refine Again.next (t + 1) (gC [0, 1, 2, 3] (LeAll.cons (by rfl) (by first | with_reducible exact Root.Le.refl _ | with_reducible exact le_dead | (exact le_row (Nat.le_refl _) (fun j hj => congrFun ((congrArg nmF hst.symm).trans (nm_up _ _ _)) j)) | exact byLeq) (by exact byCon) (LeAll.cons (by rfl) (by first | with_reducible exact Root.Le.refl _ | with_reducible exact le_dead | (exact le_row (Nat.le_refl _) (fun j hj => congrFun ((congrArg nmF hst.symm).trans (nm_up _ _ _)) j)) | exact byLeq) (by exact byCon) (LeAll.cons (by rfl) (by first | with_reducible exact Root.Le.refl _ | with_reducible exact le_dead | (exact le_row (Nat.le_refl _) (fun j hj => congrFun ((congrArg nmF hst.symm).trans (nm_up _ _ _)) j)) | exact byLeq) (by exact byCon) (LeAll.cons (by rfl) (by first | with_reducible exact Root.Le.refl _ | with_reducible exact le_dead | (exact le_row (Nat.le_refl _) (fun j hj => congrFun ((congrArg nmF hst.symm).trans (nm_up _ _ _)) j)) | exact byLeq) (by exact byCon) (leZ)))))) (ht) (by dsimp only; omega)
          · have ht : t = (L.getD i []).length := by have := of_decide_eq_false hc; simp only [addrAt0, Int.toNat_natCast] at this; omega
            subst ht
            rw [pt_next hi]
            refine rE ?_
            refine Again.next (i + 1) (gC [0, 1, 2, 3] (leC (leC (leC (leC leZ))))) (hi) (by dsimp only; omega)
        · have hi : i = L.length := by have := of_decide_eq_false hc; omega
          subst hi
          rw [← hfin]
          refine rS ?_
          refine WP.seq ?_
          refine rS ?_
          refine WP.block ?_
          refine WP.loopH (⟨fun k : Nat => k ≤ L.length, fun k => [(2, .p 0 [] 0), (4, .p 1 [] 0), (7, .sl 3 0 L.length 1), (8, .sl 2 0 N' 1), (11, .p 4 [] 0), (12, .i .i64 (k : Int))], fun k => [.var (ds_ N' b w), .var (ds_ 0 (fun _ => 0) (fun _ => 0)), .row 2 N' 1 (nmF (prtF L)), .ro L.length 1 (rowsF L), .var (ds_ L.length (fillF (hdQ L b) k) (fillF (hdQ L w) k))], fun k => L.length - k⟩) (0) (Nat.zero_le _) (gC [0, 1, 2, 3, 4] (LeAll.cons (by rfl) (by first | with_reducible exact Root.Le.refl _ | with_reducible exact le_dead | (exact le_var (by rw [fill_zero, fill_zero]; exact (dsf_of rfl rfl rfl fun _ => rfl).symm)) | exact byLeq) (by exact byCon) (LeAll.cons (by rfl) (by first | with_reducible exact Root.Le.refl _ | with_reducible exact le_dead | (exact le_var (by rw [fill_zero, fill_zero]; exact (dsf_of rfl rfl rfl fun _ => rfl).symm)) | exact byLeq) (by exact byCon) (LeAll.cons (by rfl) (by first | with_reducible exact Root.Le.refl _ | with_reducible exact le_dead | (exact le_var (by rw [fill_zero, fill_zero]; exact (dsf_of rfl rfl rfl fun _ => rfl).symm)) | exact byLeq) (by exact byCon) (LeAll.cons (by rfl) (by first | with_reducible exact Root.Le.refl _ | with_reducible exact le_dead | (exact le_var (by rw [fill_zero, fill_zero]; exact (dsf_of rfl rfl rfl fun _ => rfl).symm)) | exact byLeq) (by exact byCon) (LeAll.cons (by rfl) (by first | with_reducible exact Root.Le.refl _ | with_reducible exact le_dead | (exact le_var (by rw [fill_zero, fill_zero]; exact (dsf_of rfl rfl rfl fun _ => rfl).symm)) | exact byLeq) (by exact byCon) (leZ))))))) ?_
          intro k hk
          dsimp only at hk
          dsimp only [Hd.at]
          refine WP.seq ?_
          refine rS ?_
          refine WP.cond (by rfl) (fun hc => WP.skip ?_) (fun hc => WP.exit ?_)
          · have hk : k < L.length := by have := of_decide_eq_true hc; omega
            clear hc
            obtain ⟨hh1, hh2⟩ := hhd k hk
            have hbk := hD.pb.lt _ hh1
            have hwk := hD.pw.lt _ hh1
            have hpb1 := hpl _ hbk
            have hpw1 := hpl _ hwk
            have hb2 : hdQ L b k < 16 := by unfold hdQ; omega
            have hw2 : hdQ L w k < 16 := by unfold hdQ; omega
            refine WP.seq (WP.block ?_)
            refine WP.rw ?_
            refine WPL.run T false 8 tok (by rfl) (by try simp only [Int.toNat_zero]; exact byObl) ?_
            refine WPL.run T false 7 tok (by rfl) (by (try simp only [Int.toNat_zero]); exact byObl) ?_
            refine rF ?_
            refine WP.region ?_
            refine WPL.run T false 8 tok (by rfl) (by (try simp only [Int.toNat_zero]); exact byObl) ?_
            refine WPL.run T false 7 tok (by rfl) (by (try simp only [Int.toNat_zero]); exact byObl) ?_
            refine rF ?_
            refine rE ?_
            refine Again.next (k + 1) (gC [0, 1, 2, 3, 4] (LeAll.cons (by rfl) (by first | with_reducible exact Root.Le.refl _ | with_reducible exact le_dead | (exact le_var (by rw [← fill_step, ← fill_step]; exact byVareq)) | exact byLeq) (by exact byCon) (LeAll.cons (by rfl) (by first | with_reducible exact Root.Le.refl _ | with_reducible exact le_dead | (exact le_var (by rw [← fill_step, ← fill_step]; exact byVareq)) | exact byLeq) (by exact byCon) (LeAll.cons (by rfl) (by first | with_reducible exact Root.Le.refl _ | with_reducible exact le_dead | (exact le_var (by rw [← fill_step, ← fill_step]; exact byVareq)) | exact byLeq) (by exact byCon) (LeAll.cons (by rfl) (by first | with_reducible exact Root.Le.refl _ | with_reducible exact le_dead | (exact le_var (by rw [← fill_step, ← fill_step]; exact byVareq)) | exact byLeq) (by exact byCon) (LeAll.cons (by rfl) (by first | with_reducible exact Root.Le.refl _ | with_reducible exact le_dead | (exact le_var (by rw [← fill_step, ← fill_step]; exact byVareq)) | exact byLeq) (by exact byCon) (leZ))))))) (hk) (by dsimp only; omega)
          · have hk : k = L.length := by have := of_decide_eq_false hc; omega
            subst hk
            refine rS ?_
            exact WP.ret (Ends.new [2] (by rfl) (by exact byObl) (leC leZ) rfl rfl (ren_t3 ⟨rfl, sc_ds _ _ _ _⟩ rfl ⟨rfl, trivial⟩) (sc_t3 (sc_ds _ _ _ _) (sc_sl rfl) trivial))
end Go.Proofs.Ythjnmlpibafbnaa
