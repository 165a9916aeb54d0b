import Derived.Test.YtakapfgjdhliaaaX142
/- Draws: some dessin. -/
namespace Go.Proofs.Ytakapfgjdhliaaa
open Go.RowKit DM
set_option linter.unusedSimpArgs false
set_option linter.unusedVariables false
set_option maxRecDepth 100000
set_option maxHeartbeats 1000000

theorem renTo_bt {p b : Nat → Nat} (hp : ∀ i, p i < 16) : ∀ k, Bt 16 (renTo p b k)
  | 0 => ⟨fun _ => Nat.zero_lt_succ _, fun _ _ => rfl⟩
  | k + 1 => (renTo_bt hp k).up (hp k) (hp _)

theorem l02Some_fn (len : Nat) (g : Nat → Nat) (hg : ∀ j, g j < 256) (a : Nat) (h : Int) (ha : a ≤ len) (hl : len ≤ 4294967296) :
    FnS Try.prog 69 [.p 0 [] 0] [.var (srcD len g a h)] fun r m' => ∃ (n : Int) (b w : Nat → Nat) (a' : Nat) (h' : Int), r = ds_ n b w ∧ -1 ≤ n ∧ n ≤ 17 ∧ Bt 256 b ∧ Bt 256 w ∧ a' ≤ len ∧ m' = [.var (srcD len g a' h')] := by
  have hSc : ∀ (k a : Nat) (h : Int), Sc k (srcD len g a h) := fun k a h => sc_src k len g a h
  have sc_ch := hSc
  have hnx := l01Next_fn len g hg a h 3 ha hl
  refine FnS.intoE T tok Try.func69 (by rfl) rfl rfl rfl (by simp) ?_
  refine WP.rs T false tok (by rfl) (by exact byObl) ?_
  refine WP.seq ?_
  refine WP.rw ?_
  refine WPL.run T false 1 tok (by rfl) (by exact byObl) ?_
  refine WPL.callE [0] (hnx) (LeAll.cons (by rfl) (by first | with_reducible exact Root.Le.refl _ | with_reducible exact le_dead | (skip; done) | exact byLeq) (by exact byCon) (trivial)) (by rfl) (by rfl) (by exact byArgs) (by rfl) (by rfl) (by simp [Sc, sc_pl, sc_ds]) ?_
  rintro _ _ ⟨y, a1, h1, rfl, _, _, ha1, rfl⟩
  refine ⟨⟨fun d hd => by cases hd; exact sc_src _ _ _ _ _, trivial⟩, .i .i64 y, ⟨rfl, trivial⟩, trivial, ?_⟩
  refine WPL.mem (by rfl) ?_
  refine WPL.fin T false tok (by rfl) (by exact byObl) ?_
  refine WP.cond (by rfl) (fun hy => ?_) (fun hy => ?_)
  · have hsy := l02Symmetric_fn len g hg a1 h1 ha1 hl
    refine WP.rw ?_
    refine WPL.run T false 1 tok (by rfl) (by exact byObl) ?_
    refine WPL.callE [0] (hsy) (LeAll.cons (by rfl) (by first | with_reducible exact Root.Le.refl _ | with_reducible exact le_dead | (skip; done) | exact byLeq) (by exact byCon) (trivial)) (by rfl) (by rfl) (by exact byArgs) (by rfl) (by rfl) (by simp [Sc, sc_pl, sc_ds]) ?_
    rintro _ _ ⟨n, b, w, a2, h2, rfl, hn1, hn16, hb, hw, ha2, rfl⟩
    refine ⟨⟨fun d hd => by cases hd; exact sc_src _ _ _ _ _, trivial⟩, ds_ n b w, ⟨rfl, sc_ds _ _ _ _⟩, sc_ds _ _ _ _, ?_⟩
    refine WPL.mem (by rfl) ?_
    refine WPL.fin T false tok (by rfl) (by exact byObl) ?_
    refine WP.ghost (Ghost.cut (Nat.le_refl _) (tauOf [0, 1, 2]) [(0, .p 0 [] 0), (2, .p 1 [] 0), (3, .p 2 [] 0)] [.var (srcD len g a2 h2), .var (ds_ 0 (fun _ => 0) (fun _ => 0)), .var (ds_ n b w)] (Taken.of [0, 1, 2] (LeAll.cons (by rfl) (by first | with_reducible exact Root.Le.refl _ | with_reducible exact le_dead | (exact le_var (dsf_of rfl rfl rfl fun _ => rfl).symm) | exact byLeq) (by exact byCon) (LeAll.cons (by rfl) (by first | with_reducible exact Root.Le.refl _ | with_reducible exact le_dead | (exact le_var (dsf_of rfl rfl rfl fun _ => rfl).symm) | exact byLeq) (by exact byCon) (LeAll.cons (by rfl) (by first | with_reducible exact Root.Le.refl _ | with_reducible exact le_dead | (exact le_var (dsf_of rfl rfl rfl fun _ => rfl).symm) | exact byLeq) (by exact byCon) (trivial)))) rfl rfl) (by exact bySlots)) ?_
    have hdp := l01DrawPlaces_fn len g hg a2 h2 (n : Int) (by omega) (by omega) ha2 hl
    have fin : ∀ p : Nat → Nat, Bt n p → FnP Try.prog 78 [ds_ n b w, pl p] (ds_ n (renTo p b n) (renTo p w n)) := fun p hp => l02Rename_fn n b w p hn16 (fun i _ => Nat.lt_of_lt_of_le (hb.lt i) hn16) (fun i _ => Nat.lt_of_lt_of_le (hw.lt i) hn16) (fun i _ => Nat.lt_of_lt_of_le (hp.lt i) hn16)
    have fin2 : ∀ p : Nat → Nat, Bt n p → Bt 256 (renTo p b n) ∧ Bt 256 (renTo p w n) := fun p hp => ⟨(renTo_bt (fun i => Nat.lt_of_lt_of_le (hp.lt i) hn16) n).mono (by decide), (renTo_bt (fun i => Nat.lt_of_lt_of_le (hp.lt i) hn16) n).mono (by decide)⟩
    have hG : ∀ r m1, (∃ (p : Nat → Nat) (a' : Nat) (h' : Int), r = pl p ∧ Bt (bN (n : Int)) p ∧ a' ≤ len ∧ m1 = [Root.var (srcD len g a' h')]) → ∃ (p : Nat → Nat) (a' : Nat) (h' : Int), r = pl p ∧ Bt n p ∧ a' ≤ len ∧ m1 = [Root.var (srcD len g a' h')] := fun r m1 ⟨p, a', h', e1, e2, e3, e4⟩ => ⟨p, a', h', e1, bN_nat hn1 ▸ e2, e3, e4⟩
    refine WP.seq ?_
    refine WP.da (by kernel_rfl) 4 (by kernel_rfl) ?_
    refine WA.takesD T false tok [1] (f' := 6) (by kernel_rfl) (by rfl) (by rfl) (by exact byObl) (by rfl) (by rfl) ?_
    refine WA.allTE [0, 2] (by kernel_rfl) (by simp) ?_; intro i' hi'; simp only [List.mem_cons, List.not_mem_nil, or_false] at hi'
    rcases hi' with rfl | rfl
    · refine ⟨_, _, rfl, by rfl, by rfl, .inl (MKE.of (MK.q (evalOp_q tok (wm := false) (by rfl) (by rfl) (by exact byObl)))), ?_⟩; rintro _ _ ⟨rfl, rfl⟩
      refine WA.allTE [2] (by kernel_rfl) (by simp) ?_; intro i' hi'; simp only [List.mem_cons, List.not_mem_nil, or_false] at hi'
      subst hi'
      refine ⟨_, _, rfl, by rfl, by rfl, .inl (MKE.of (MK.q (evalOp_q tok (wm := false) (by rfl) (by rfl) (by exact byObl)))), ?_⟩; rintro _ _ ⟨rfl, rfl⟩
      refine WA.allTE [3] (by kernel_rfl) (by simp) ?_; intro i' hi'; simp only [List.mem_cons, List.not_mem_nil, or_false] at hi'
      subst hi'
      refine ⟨_, _, rfl, by rfl, by rfl, .inl (MKE.of (MK.q (evalOp_q tok (wm := false) (by rfl) (by rfl) (by exact byObl)))), ?_⟩; rintro _ _ ⟨rfl, rfl⟩
      refine WA.allTE [4] (by kernel_rfl) (by simp) ?_; intro i' hi'; simp only [List.mem_cons, List.not_mem_nil, or_false] at hi'
      subst hi'
      refine ⟨_, fun v m' => ∃ (p : Nat → Nat) (a' : Nat) (h' : Int), v = pl p ∧ Bt n p ∧ a' ≤ len ∧ m' = [.var (srcD len g a' h'), .var (ds_ 0 (fun _ => 0) (fun _ => 0)), .var (ds_ n b w)], rfl, by rfl, by rfl, .inr ⟨by decide, TKE.call [0] (hdp) (LeAll.cons (by rfl) (by first | with_reducible exact Root.Le.refl _ | with_reducible exact le_dead | (skip; done) | exact byLeq) (by exact byCon) (trivial)) (by rfl) (by rfl) (by exact byArgs) (by simp [Sc, sc_pl, sc_ds]) ?_⟩, ?_⟩
      · intro r m1 hq
        obtain ⟨p, a', h', rfl, hp, ha', rfl⟩ := hG r m1 hq
        exact ⟨⟨fun d hd => by cases hd; exact sc_src _ _ _ _ _, trivial⟩, pl p, ⟨rfl, sc_pl _ _⟩, sc_pl _ _, p, a', h', rfl, hp, ha', rfl⟩
      rintro _ _ ⟨p, a3, h3, rfl, hp, ha3, rfl⟩
      refine WA.allTE [5] (by kernel_rfl) (by simp) ?_; intro i' hi'; simp only [List.mem_cons, List.not_mem_nil, or_false] at hi'
      subst hi'
      refine ⟨_, _, rfl, by rfl, by rfl, .inl (MKE.of (MK.callP (fin p hp) (by rfl) (by simp [Sc, sc_pl, sc_ds, pl_ne, ds_ne]))), ?_⟩; rintro _ _ ⟨rfl, rfl⟩
      refine WA.allTE [6] (by kernel_rfl) (by simp) ?_; intro i' hi'; simp only [List.mem_cons, List.not_mem_nil, or_false] at hi'
      subst hi'
      refine ⟨_, _, rfl, by rfl, by rfl, .inr ⟨by decide, TKE.of (TK.of tok (wm := false) (by rfl) (by exact byObl))⟩, ?_⟩; rintro _ _ ⟨rfl, rfl⟩
      refine WA.end rfl (by kernel_rfl) (noPan ?_)
      refine WP.ghost (Ghost.cut (Nat.le_refl _) (tauOf [0, 1]) [(2, .p 1 [] 0)] [.var (srcD len g a3 h3), .var (ds_ n (renTo p b n) (renTo p w n))] (Taken.of [0, 1] (LeAll.cons (by rfl) (by first | with_reducible exact Root.Le.refl _ | with_reducible exact le_dead | (skip; done) | exact byLeq) (by exact byCon) (LeAll.cons (by rfl) (by first | with_reducible exact Root.Le.refl _ | with_reducible exact le_dead | (skip; done) | exact byLeq) (by exact byCon) (trivial))) rfl rfl) (by exact bySlots)) ?_
      exact WP.ret (Ends.newE [0] (⟨n, _, _, a3, h3, rfl, by omega, by omega, (fin2 p hp).1, (fin2 p hp).2, ha3, rfl⟩) (.inl rfl) (by rfl) (by exact byObl) (LeAll.cons (by rfl) (by first | with_reducible exact Root.Le.refl _ | with_reducible exact le_dead | (skip; done) | exact byLeq) (by exact byCon) (trivial)) rfl rfl (⟨rfl, sc_ds _ _ _ _⟩) (sc_ds _ _ _ _))
    · refine ⟨_, _, rfl, by rfl, by rfl, .inl (MKE.of (MK.q (evalOp_q tok (wm := false) (by rfl) (by rfl) (by exact byObl)))), ?_⟩; rintro _ _ ⟨rfl, rfl⟩
      refine WA.allTE [0, 3] (by kernel_rfl) (by simp) ?_; intro i' hi'; simp only [List.mem_cons, List.not_mem_nil, or_false] at hi'
      rcases hi' with rfl | rfl
      · refine ⟨_, _, rfl, by rfl, by rfl, .inl (MKE.of (MK.q (evalOp_q tok (wm := false) (by rfl) (by rfl) (by exact byObl)))), ?_⟩; rintro _ _ ⟨rfl, rfl⟩
        refine WA.allTE [3] (by kernel_rfl) (by simp) ?_; intro i' hi'; simp only [List.mem_cons, List.not_mem_nil, or_false] at hi'
        subst hi'
        refine ⟨_, _, rfl, by rfl, by rfl, .inl (MKE.of (MK.q (evalOp_q tok (wm := false) (by rfl) (by rfl) (by exact byObl)))), ?_⟩; rintro _ _ ⟨rfl, rfl⟩
        refine WA.allTE [4] (by kernel_rfl) (by simp) ?_; intro i' hi'; simp only [List.mem_cons, List.not_mem_nil, or_false] at hi'
        subst hi'
        refine ⟨_, fun v m' => ∃ (p : Nat → Nat) (a' : Nat) (h' : Int), v = pl p ∧ Bt n p ∧ a' ≤ len ∧ m' = [.var (srcD len g a' h'), .var (ds_ 0 (fun _ => 0) (fun _ => 0)), .var (ds_ n b w)], rfl, by rfl, by rfl, .inr ⟨by decide, TKE.call [0] (hdp) (LeAll.cons (by rfl) (by first | with_reducible exact Root.Le.refl _ | with_reducible exact le_dead | (skip; done) | exact byLeq) (by exact byCon) (trivial)) (by rfl) (by rfl) (by exact byArgs) (by simp [Sc, sc_pl, sc_ds]) ?_⟩, ?_⟩
        · intro r m1 hq
          obtain ⟨p, a', h', rfl, hp, ha', rfl⟩ := hG r m1 hq
          exact ⟨⟨fun d hd => by cases hd; exact sc_src _ _ _ _ _, trivial⟩, pl p, ⟨rfl, sc_pl _ _⟩, sc_pl _ _, p, a', h', rfl, hp, ha', rfl⟩
        rintro _ _ ⟨p, a3, h3, rfl, hp, ha3, rfl⟩
        refine WA.allTE [5] (by kernel_rfl) (by simp) ?_; intro i' hi'; simp only [List.mem_cons, List.not_mem_nil, or_false] at hi'
        subst hi'
        refine ⟨_, _, rfl, by rfl, by rfl, .inl (MKE.of (MK.callP (fin p hp) (by rfl) (by simp [Sc, sc_pl, sc_ds, pl_ne, ds_ne]))), ?_⟩; rintro _ _ ⟨rfl, rfl⟩
        refine WA.allTE [6] (by kernel_rfl) (by simp) ?_; intro i' hi'; simp only [List.mem_cons, List.not_mem_nil, or_false] at hi'
        subst hi'
        refine ⟨_, _, rfl, by rfl, by rfl, .inr ⟨by decide, TKE.of (TK.of tok (wm := false) (by rfl) (by exact byObl))⟩, ?_⟩; rintro _ _ ⟨rfl, rfl⟩
        refine WA.end rfl (by kernel_rfl) (noPan ?_)
        refine WP.ghost (Ghost.cut (Nat.le_refl _) (tauOf [0, 1]) [(2, .p 1 [] 0)] [.var (srcD len g a3 h3), .var (ds_ n (renTo p b n) (renTo p w n))] (Taken.of [0, 1] (LeAll.cons (by rfl) (by first | with_reducible exact Root.Le.refl _ | with_reducible exact le_dead | (skip; done) | exact byLeq) (by exact byCon) (LeAll.cons (by rfl) (by first | with_reducible exact Root.Le.refl _ | with_reducible exact le_dead | (skip; done) | exact byLeq) (by exact byCon) (trivial))) rfl rfl) (by exact bySlots)) ?_
        exact WP.ret (Ends.newE [0] (⟨n, _, _, a3, h3, rfl, by omega, by omega, (fin2 p hp).1, (fin2 p hp).2, ha3, rfl⟩) (.inl rfl) (by rfl) (by exact byObl) (LeAll.cons (by rfl) (by first | with_reducible exact Root.Le.refl _ | with_reducible exact le_dead | (skip; done) | exact byLeq) (by exact byCon) (trivial)) rfl rfl (⟨rfl, sc_ds _ _ _ _⟩) (sc_ds _ _ _ _))
      · refine ⟨_, _, rfl, by rfl, by rfl, .inl (MKE.of (MK.q (evalOp_q tok (wm := false) (by rfl) (by rfl) (by exact byObl)))), ?_⟩; rintro _ _ ⟨rfl, rfl⟩
        refine WA.allTE [0, 4] (by kernel_rfl) (by simp) ?_; intro i' hi'; simp only [List.mem_cons, List.not_mem_nil, or_false] at hi'
        rcases hi' with rfl | rfl
        · refine ⟨_, _, rfl, by rfl, by rfl, .inl (MKE.of (MK.q (evalOp_q tok (wm := false) (by rfl) (by rfl) (by exact byObl)))), ?_⟩; rintro _ _ ⟨rfl, rfl⟩
          refine WA.allTE [4] (by kernel_rfl) (by simp) ?_; intro i' hi'; simp only [List.mem_cons, List.not_mem_nil, or_false] at hi'
          subst hi'
          refine ⟨_, fun v m' => ∃ (p : Nat → Nat) (a' : Nat) (h' : Int), v = pl p ∧ Bt n p ∧ a' ≤ len ∧ m' = [.var (srcD len g a' h'), .var (ds_ 0 (fun _ => 0) (fun _ => 0)), .var (ds_ n b w)], rfl, by rfl, by rfl, .inr ⟨by decide, TKE.call [0] (hdp) (LeAll.cons (by rfl) (by first | with_reducible exact Root.Le.refl _ | with_reducible exact le_dead | (skip; done) | exact byLeq) (by exact byCon) (trivial)) (by rfl) (by rfl) (by exact byArgs) (by simp [Sc, sc_pl, sc_ds]) ?_⟩, ?_⟩
          · intro r m1 hq
            obtain ⟨p, a', h', rfl, hp, ha', rfl⟩ := hG r m1 hq
            exact ⟨⟨fun d hd => by cases hd; exact sc_src _ _ _ _ _, trivial⟩, pl p, ⟨rfl, sc_pl _ _⟩, sc_pl _ _, p, a', h', rfl, hp, ha', rfl⟩
          rintro _ _ ⟨p, a3, h3, rfl, hp, ha3, rfl⟩
          refine WA.allTE [5] (by kernel_rfl) (by simp) ?_; intro i' hi'; simp only [List.mem_cons, List.not_mem_nil, or_false] at hi'
          subst hi'
          refine ⟨_, _, rfl, by rfl, by rfl, .inl (MKE.of (MK.callP (fin p hp) (by rfl) (by simp [Sc, sc_pl, sc_ds, pl_ne, ds_ne]))), ?_⟩; rintro _ _ ⟨rfl, rfl⟩
          refine WA.allTE [6] (by kernel_rfl) (by simp) ?_; intro i' hi'; simp only [List.mem_cons, List.not_mem_nil, or_false] at hi'
          subst hi'
          refine ⟨_, _, rfl, by rfl, by rfl, .inr ⟨by decide, TKE.of (TK.of tok (wm := false) (by rfl) (by exact byObl))⟩, ?_⟩; rintro _ _ ⟨rfl, rfl⟩
          refine WA.end rfl (by kernel_rfl) (noPan ?_)
          refine WP.ghost (Ghost.cut (Nat.le_refl _) (tauOf [0, 1]) [(2, .p 1 [] 0)] [.var (srcD len g a3 h3), .var (ds_ n (renTo p b n) (renTo p w n))] (Taken.of [0, 1] (LeAll.cons (by rfl) (by first | with_reducible exact Root.Le.refl _ | with_reducible exact le_dead | (skip; done) | exact byLeq) (by exact byCon) (LeAll.cons (by rfl) (by first | with_reducible exact Root.Le.refl _ | with_reducible exact le_dead | (skip; done) | exact byLeq) (by exact byCon) (trivial))) rfl rfl) (by exact bySlots)) ?_
          exact WP.ret (Ends.newE [0] (⟨n, _, _, a3, h3, rfl, by omega, by omega, (fin2 p hp).1, (fin2 p hp).2, ha3, rfl⟩) (.inl rfl) (by rfl) (by exact byObl) (LeAll.cons (by rfl) (by first | with_reducible exact Root.Le.refl _ | with_reducible exact le_dead | (skip; done) | exact byLeq) (by exact byCon) (trivial)) rfl rfl (⟨rfl, sc_ds _ _ _ _⟩) (sc_ds _ _ _ _))
        · refine ⟨_, fun v m' => ∃ (p : Nat → Nat) (a' : Nat) (h' : Int), v = pl p ∧ Bt n p ∧ a' ≤ len ∧ m' = [.var (srcD len g a' h'), .var (ds_ 0 (fun _ => 0) (fun _ => 0)), .var (ds_ n b w)], rfl, by rfl, by rfl, .inr ⟨by decide, TKE.call [0] (hdp) (LeAll.cons (by rfl) (by first | with_reducible exact Root.Le.refl _ | with_reducible exact le_dead | (skip; done) | exact byLeq) (by exact byCon) (trivial)) (by rfl) (by rfl) (by exact byArgs) (by simp [Sc, sc_pl, sc_ds]) ?_⟩, ?_⟩
          · intro r m1 hq
            obtain ⟨p, a', h', rfl, hp, ha', rfl⟩ := hG r m1 hq
            exact ⟨⟨fun d hd => by cases hd; exact sc_src _ _ _ _ _, trivial⟩, pl p, ⟨rfl, sc_pl _ _⟩, sc_pl _ _, p, a', h', rfl, hp, ha', rfl⟩
          rintro _ _ ⟨p, a3, h3, rfl, hp, ha3, rfl⟩
          refine WA.allTE [0] (by kernel_rfl) (by simp) ?_; intro i' hi'; simp only [List.mem_cons, List.not_mem_nil, or_false] at hi'
          subst hi'
          refine ⟨_, _, rfl, by rfl, by rfl, .inl (MKE.of (MK.q (evalOp_q tok (wm := false) (by rfl) (by rfl) (by exact byObl)))), ?_⟩; rintro _ _ ⟨rfl, rfl⟩
          refine WA.allTE [5] (by kernel_rfl) (by simp) ?_; intro i' hi'; simp only [List.mem_cons, List.not_mem_nil, or_false] at hi'
          subst hi'
          refine ⟨_, _, rfl, by rfl, by rfl, .inl (MKE.of (MK.callP (fin p hp) (by rfl) (by simp [Sc, sc_pl, sc_ds, pl_ne, ds_ne]))), ?_⟩; rintro _ _ ⟨rfl, rfl⟩
          refine WA.allTE [6] (by kernel_rfl) (by simp) ?_; intro i' hi'; simp only [List.mem_cons, List.not_mem_nil, or_false] at hi'
          subst hi'
          refine ⟨_, _, rfl, by rfl, by rfl, .inr ⟨by decide, TKE.of (TK.of tok (wm := false) (by rfl) (by exact byObl))⟩, ?_⟩; rintro _ _ ⟨rfl, rfl⟩
          refine WA.end rfl (by kernel_rfl) (noPan ?_)
          refine WP.ghost (Ghost.cut (Nat.le_refl _) (tauOf [0, 1]) [(2, .p 1 [] 0)] [.var (srcD len g a3 h3), .var (ds_ n (renTo p b n) (renTo p w n))] (Taken.of [0, 1] (LeAll.cons (by rfl) (by first | with_reducible exact Root.Le.refl _ | with_reducible exact le_dead | (skip; done) | exact byLeq) (by exact byCon) (LeAll.cons (by rfl) (by first | with_reducible exact Root.Le.refl _ | with_reducible exact le_dead | (skip; done) | exact byLeq) (by exact byCon) (trivial))) rfl rfl) (by exact bySlots)) ?_
          exact WP.ret (Ends.newE [0] (⟨n, _, _, a3, h3, rfl, by omega, by omega, (fin2 p hp).1, (fin2 p hp).2, ha3, rfl⟩) (.inl rfl) (by rfl) (by exact byObl) (LeAll.cons (by rfl) (by first | with_reducible exact Root.Le.refl _ | with_reducible exact le_dead | (skip; done) | exact byLeq) (by exact byCon) (trivial)) rfl rfl (⟨rfl, sc_ds _ _ _ _⟩) (sc_ds _ _ _ _))
  refine WP.skip ?_
  let F : Nat → Int := fun j => if j = 0 then 4 else if j = 1 then 6 else if j = 2 then 9 else 16
  have hF : ∀ j, 1 ≤ F j ∧ F j ≤ 16 := fun j => by
    show 1 ≤ (if j = 0 then (4 : Int) else if j = 1 then 6 else if j = 2 then 9 else 16) ∧ (if j = 0 then (4 : Int) else if j = 1 then 6 else if j = 2 then 9 else 16) ≤ 16
    split
    · omega
    · split
      · omega
      · split <;> omega
  have hpk := l01Pick_fn len g hg a1 h1 4 F (by omega) (by omega) ha1 hl
  refine WP.rw ?_
  refine WPL.run T false 3 tok (by rfl) (by exact byObl) ?_
  refine WPL.callE [0, 2] (hpk) (LeAll.cons (by rfl) (by first | with_reducible exact Root.Le.refl _ | with_reducible exact le_dead | (exact le_row (Nat.le_refl _) (fun j hj => by obtain rfl | rfl | rfl | rfl : j = 0 ∨ j = 1 ∨ j = 2 ∨ j = 3 := (by omega) <;> rfl)) | exact byLeq) (by exact byCon) (LeAll.cons (by rfl) (by first | with_reducible exact Root.Le.refl _ | with_reducible exact le_dead | (exact le_row (Nat.le_refl _) (fun j hj => by obtain rfl | rfl | rfl | rfl : j = 0 ∨ j = 1 ∨ j = 2 ∨ j = 3 := (by omega) <;> rfl)) | exact byLeq) (by exact byCon) (trivial))) (by rfl) (by rfl) (by exact byArgs) (by rfl) (by rfl) (by simp [Sc, sc_pl, sc_ds]) ?_
  rintro _ _ ⟨j1, a2, h2, rfl, _, ha2, rfl⟩
  refine ⟨⟨fun d hd => by cases hd; exact sc_src _ _ _ _ _, fun d hd => by cases hd; exact fun _ _ => trivial, trivial⟩, .i .i64 (F j1), ⟨rfl, trivial⟩, trivial, ?_⟩
  refine WPL.mem (by rfl) ?_
  have hsp := l01Spoil_fn len g hg a2 h2 (F j1) (hF _).1 (hF _).2 ha2 hl
  refine WPL.callE [0] (hsp) (LeAll.cons (by rfl) (by first | with_reducible exact Root.Le.refl _ | with_reducible exact le_dead | (skip; done) | exact byLeq) (by exact byCon) (trivial)) (by rfl) (by rfl) (by exact byArgs) (by rfl) (by rfl) (by simp [Sc, sc_pl, sc_ds]) ?_
  rintro _ _ ⟨n, b, w, a3, h3, rfl, hn1, hn2, hb, hw, ha3, rfl⟩
  refine ⟨⟨fun d hd => by cases hd; exact sc_src _ _ _ _ _, trivial⟩, ds_ n b w, ⟨rfl, sc_ds _ _ _ _⟩, sc_ds _ _ _ _, ?_⟩
  refine WPL.mem (by rfl) ?_
  refine WPL.fin T false tok (by rfl) (by exact byObl) ?_
  refine WP.ghost (Ghost.cut (Nat.le_refl _) (tauOf [0, 1]) [(2, .p 1 [] 0)] [.var (srcD len g a3 h3), .var (ds_ n b w)] (Taken.of [0, 1] (LeAll.cons (by rfl) (by first | with_reducible exact Root.Le.refl _ | with_reducible exact le_dead | (exact le_var (dsf_of rfl rfl rfl fun _ => rfl).symm) | exact byLeq) (by exact byCon) (LeAll.cons (by rfl) (by first | with_reducible exact Root.Le.refl _ | with_reducible exact le_dead | (exact le_var (dsf_of rfl rfl rfl fun _ => rfl).symm) | exact byLeq) (by exact byCon) (trivial))) rfl rfl) (by exact bySlots)) ?_
  exact WP.ret (Ends.newE [0] (⟨n, b, w, a3, h3, rfl, hn1, hn2, hb, hw, ha3, rfl⟩) (.inl rfl) (by rfl) (by exact byObl) (LeAll.cons (by rfl) (by first | with_reducible exact Root.Le.refl _ | with_reducible exact le_dead | (skip; done) | exact byLeq) (by exact byCon) (trivial)) rfl rfl (⟨rfl, sc_ds _ _ _ _⟩) (sc_ds _ _ _ _))

end Go.Proofs.Ytakapfgjdhliaaa
