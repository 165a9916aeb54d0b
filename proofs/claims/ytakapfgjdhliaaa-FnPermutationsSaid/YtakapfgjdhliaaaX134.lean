import Derived.Test.YtakapfgjdhliaaaX133
import Derived.Test.YtakapfgjdhliaaaD37
/- Draws of FnPermutations. -/
namespace Go.Proofs.Ytakapfgjdhliaaa
open Go.RowKit DM
set_option linter.unusedSimpArgs false
set_option linter.unusedVariables false
set_option maxRecDepth 100000
set_option maxHeartbeats 1000000

theorem drawOrderOf_fn (len : Nat) (g : Nat → Nat) (hg : ∀ j, g j < 256) (hl : len ≤ 4294967296) :
    FnS Try.prog 23 [.sl 0 0 len 1] [.ro len 1 (byF g)] fun r m' => ∃ (p : Nat → Nat) (n : Int), r = t2 (pl p) (.i .i64 n) ∧ Bt 256 p ∧ -1 ≤ n ∧ n ≤ 17 ∧ m' = [.ro len 1 (byF g)] := by
  have han := l01Any_fn len g hg hl
  refine FnS.intoE T tok Try.func23 (by rfl) rfl rfl rfl (by simp) ?_
  refine WP.rs T false tok (by rfl) (by exact byObl) ?_
  refine WP.rw ?_
  refine WPL.run T false 1 tok (by rfl) (by exact byObl) ?_
  refine WPL.callE [0] (han) (LeAll.cons (by rfl) (by first | with_reducible exact Root.Le.refl _ | with_reducible exact le_dead | (skip; done) | exact byLeq) (by exact byCon) (trivial)) (by rfl) (by rfl) (by exact byArgs) (by rfl) (by rfl) (by simp [Sc, sc_pl, sc_ds]) ?_
  rintro _ _ ⟨p, n, rfl, hp, hn1, hn2, rfl⟩
  refine ⟨⟨fun d hd => by cases hd; exact fun _ _ => trivial, trivial⟩, t2 (pl p) (.i .i64 n), ren_t2 ⟨rfl, sc_pl _ _⟩ ⟨rfl, trivial⟩, sc_t2 (sc_pl _ _) trivial, ?_⟩
  refine WPL.mem (by rfl) ?_
  refine WPL.fin T false tok (by rfl) (by exact byObl) ?_
  refine WP.rs T false tok (by rfl) (by exact byObl) ?_
  exact WP.ret (Ends.newE [0] (⟨p, n, rfl, hp, hn1, hn2, rfl⟩) (.inl rfl) (by rfl) (by exact byObl) (LeAll.cons (by rfl) (by first | with_reducible exact Root.Le.refl _ | with_reducible exact le_dead | (skip; done) | exact byLeq) (by exact byCon) (trivial)) rfl rfl (ren_t2 ⟨rfl, sc_pl _ _⟩ ⟨rfl, trivial⟩) (sc_t2 (sc_pl _ _) trivial))

theorem l01FromW_fn (len : Nat) (g : Nat → Nat) (hg : ∀ j, g j < 256) (hl : len ≤ 4294967296) :
    FnS Try.prog 43 [.sl 0 0 len 1] [.row 5 len 1 (byF g)] fun r m' => r = .p 1 [] 0 ∧ ∃ h' : Int, m' = [.ro len 1 (byF g), .var (srcD len g 0 h')] := by
  have hSc : ∀ (k : Nat) (h : Int), Sc k (srcD len g 0 h) := fun k h => sc_src k len g 0 h
  refine FnS.intoE T tok Try.func43 (by rfl) rfl rfl rfl (by simp) ?_
  refine WP.rs T false tok (by rfl) (by exact byObl) ?_
  refine WP.rs T true tok (by rfl) (by exact byObl) ?_
  refine WP.ghost (Ghost.foldRow (g := byF g) 1 [0] 0 (by rfl) (by rfl) rfl (by simp) (by rfl) (by rfl) (Nat.le_refl _) (fun j _ => (trivial : NoOwn (byF g j))) (by rfl)) ?_
  refine WP.seq ?_
  refine WP.rs T false tok (by rfl) (by exact byObl) ?_
  refine WP.block ?_
  refine WP.loopH (⟨fun z : Nat × Int => z.1 ≤ len, fun z => [(0, .sl 0 0 len 1), (3, .p 1 [] 0), (4, .i .i64 (z.1 : Int))], fun z => [.ro len 1 (byF g), .var (srcD len g 0 z.2)], fun z => len - z.1⟩) ((0, IntKind.u64.wrap (8117 + IntKind.u64.wrap (len : Int)))) (Nat.zero_le _) (Ghost.cut (Nat.le_refl _) (tauOf [0, 1]) _ _ (Taken.of [0, 1] (LeAll.cons (by rfl) (by first | with_reducible exact Root.Le.refl _ | with_reducible exact le_dead | (exact le_var (congrArg (Dat.st 3) (funext fun i => by rcases i with _ | _ | _ | i <;> rfl))) | exact byLeq) (by exact byCon) (LeAll.cons (by rfl) (by first | with_reducible exact Root.Le.refl _ | with_reducible exact le_dead | (exact le_var (congrArg (Dat.st 3) (funext fun i => by rcases i with _ | _ | _ | i <;> rfl))) | exact byLeq) (by exact byCon) (trivial))) rfl rfl) (by exact bySlots)) ?_
  rintro ⟨i, h⟩ hi
  dsimp only at hi
  dsimp only [Hd.at]
  refine WP.seq ?_
  refine WP.rw ?_
  refine WPL.run T false 4 tok (by rfl) (by exact byObl) ?_
  cases hc : decide ((i : Int) < len)
  · refine WPL.fin T false tok (by rfl) (by exact byObl) ?_
    refine WP.cond (by rfl) (fun h2 => WP.skip ?_) (fun h2 => WP.exit ?_)
    · cases h2
    refine WP.rs T false tok (by rfl) (by exact byObl) ?_
    exact WP.ret (Ends.newE [0, 1] (⟨rfl, h, rfl⟩) (.inl rfl) (by rfl) (by exact byObl) (LeAll.cons (by rfl) (by first | with_reducible exact Root.Le.refl _ | with_reducible exact le_dead | (skip; done) | exact byLeq) (by exact byCon) (LeAll.cons (by rfl) (by first | with_reducible exact Root.Le.refl _ | with_reducible exact le_dead | (skip; done) | exact byLeq) (by exact byCon) (trivial))) rfl rfl (rfl) (sc_p rfl))
  · have hi2 : i < len := by have := of_decide_eq_true hc; omega
    refine WPL.fin T false tok (by rfl) (by exact byObl) ?_
    refine WP.cond (by rfl) (fun h2 => WP.skip ?_) (fun h2 => WP.exit ?_)
    · have hgb := hg (addrAt 0 ((i : Nat) : Int).toNat)
      have hgb2 := hg i
      refine WP.seq (WP.block ?_)
      refine WP.da (by kernel_rfl) 13 (by kernel_rfl) ?_
      refine WA.takes T true tok [0, 1, 2, 3, 4, 5, 6, 7, 8, 9, 10, 11] (f' := 4) (by kernel_rfl) (by rfl) (by rfl) (by rfl) (by exact byObl) (by rfl) (by rfl) ?_
      refine WA.takes T true tok [12] (f' := 3) (by kernel_rfl) (by rfl) (by rfl) (by rfl) (by exact byObl) (by rfl) (by rfl) ?_
      refine WA.tail (by rfl) (by rfl) (by kernel_rfl) ?_
      refine WPL.fin T false tok (by rfl) (by exact byObl) ?_
      refine noPan ?_
      refine WP.run T false tok (by rfl) (by exact byObl) ?_
      refine Again.next ((i + 1, IntKind.u64.wrap (IntKind.u64.wrap (IntKind.u64.wrap (h * 1099511628211) + IntKind.u64.wrap ((g i : Nat) : Int)) + 23))) (Ghost.cut (Nat.le_refl _) (tauOf [0, 1]) _ _ (Taken.of [0, 1] (LeAll.cons (by rfl) (by first | with_reducible exact Root.Le.refl _ | with_reducible exact le_dead | (exact le_var (congrArg (Dat.st 3) (srcf_h len g 0 h _).symm)) | exact byLeq) (by exact byCon) (LeAll.cons (by rfl) (by first | with_reducible exact Root.Le.refl _ | with_reducible exact le_dead | (exact le_var (congrArg (Dat.st 3) (srcf_h len g 0 h _).symm)) | exact byLeq) (by exact byCon) (trivial))) rfl rfl) (by exact bySlots)) (hi2) (by dsimp only; omega)
    · refine WP.rs T false tok (by rfl) (by exact byObl) ?_
      exact WP.ret (Ends.newE [0, 1] (⟨rfl, h, rfl⟩) (.inl rfl) (by rfl) (by exact byObl) (LeAll.cons (by rfl) (by first | with_reducible exact Root.Le.refl _ | with_reducible exact le_dead | (skip; done) | exact byLeq) (by exact byCon) (LeAll.cons (by rfl) (by first | with_reducible exact Root.Le.refl _ | with_reducible exact le_dead | (skip; done) | exact byLeq) (by exact byCon) (trivial))) rfl rfl (rfl) (sc_p rfl))

def consG (g : Nat → Nat) (j : Nat) : Nat := if j = 0 then 7 else g (j - 1)
theorem consG_lt {g : Nat → Nat} (hg : ∀ j, g j < 256) (j : Nat) : consG g j < 256 := by
  unfold consG
  split
  · omega
  · exact hg _

theorem ren3d {τ : Nat → Nat} {a b c a' b' c' : Dat} (h1 : renD τ a a') (h2 : renD τ b b') (h3 : renD τ c c') : renD τ (t3 a b c) (t3 a' b' c') :=
  ⟨_, rfl, fun i _ => by
    rcases i with _ | _ | i
    · exact h1
    · exact h2
    · exact h3⟩
theorem cons_by (len : Nat) (g : Nat → Nat) (z : Nat → Dat) (j : Nat) (hj : j < 1 + len) : byF (consG g) j = apF 1 (fup z 0 (.i .u8 7)) 0 (byF g) j := by
  unfold apF
  cases j with
  | zero => rfl
  | succ j =>
    rw [show Nat.blt (j + 1) 1 = false from rfl]
    show Dat.i .u8 _ = Dat.i .u8 _
    unfold consG
    simp
theorem drawThenPlaces_fn (len : Nat) (g : Nat → Nat) (hg : ∀ j, g j < 256) (hl : len ≤ 1000000) :
    FnS Try.prog 6 [.sl 0 0 len 1] [.ro len 1 (byF g)] fun r m' => ∃ (p q : Nat → Nat) (n : Int), r = t3 (pl p) (pl q) (.i .i64 n) ∧ Bt 256 p ∧ Bt 256 q ∧ -1 ≤ n ∧ n ≤ 17 ∧ m' = [.ro len 1 (byF g)] := by
  have han := l01Any_fn len g hg (by omega)
  refine FnS.intoE T tok Try.func6 (by rfl) rfl rfl rfl (by simp) ?_
  refine WP.rs T false tok (by rfl) (by exact byObl) ?_
  refine WP.rw ?_
  refine WPL.run T false 1 tok (by rfl) (by exact byObl) ?_
  refine WPL.callE [0] (han) (LeAll.cons (by rfl) (by first | with_reducible exact Root.Le.refl _ | with_reducible exact le_dead | (skip; done) | exact byLeq) (by exact byCon) (trivial)) (by rfl) (by rfl) (by exact byArgs) (by rfl) (by rfl) (by simp [Sc, sc_pl, sc_ds]) ?_
  rintro _ _ ⟨p, n, rfl, hp, hn1, hn2, rfl⟩
  refine ⟨⟨fun d hd => by cases hd; exact fun _ _ => trivial, trivial⟩, t2 (pl p) (.i .i64 n), ren_t2 ⟨rfl, sc_pl _ _⟩ ⟨rfl, trivial⟩, sc_t2 (sc_pl _ _) trivial, ?_⟩
  refine WPL.mem (by rfl) ?_
  refine WPL.fin T false tok (by rfl) (by exact byObl) ?_
  have hfr := l01FromW_fn (1 + len) (consG g) (consG_lt hg) (by omega)
  refine WP.rw ?_
  refine WPL.run T false 3 tok (by rfl) (by exact byObl) ?_
  refine WPL.callE [5] (hfr) (LeAll.cons (by rfl) (by first | with_reducible exact Root.Le.refl _ | with_reducible exact le_dead | (exact le_row (Nat.le_refl _) (fun j hj => cons_by len g _ j hj)) | exact byLeq) (by exact byCon) (trivial)) (by rfl) (by rfl) (by exact byArgs) (by rfl) (by rfl) (by simp [Sc, sc_pl, sc_ds]) ?_
  rintro _ _ ⟨rfl, h1, rfl⟩
  refine ⟨⟨fun d hd => by cases hd; exact fun _ _ => trivial, fun d hd => by cases hd; exact sc_src _ _ _ _ _, trivial⟩, .p 6 [] 0, rfl, sc_p rfl, ?_⟩
  refine WPL.mem (by rfl) ?_
  refine WPL.fin T false tok (by rfl) (by exact byObl) ?_
  have hSc : ∀ (k : Nat) (h : Int), Sc k (srcD (1 + len) (consG g) 0 h) := fun k h => sc_src k _ _ 0 h
  refine WP.ghost (Ghost.cut (Nat.le_refl _) (tauOf [0, 1, 2, 3, 6]) [(2, .p 1 [] 0), (3, .p 2 [] 0), (5, .p 3 [] 0), (6, .i .i64 n), (7, .p 4 [] 0)] [.ro len 1 (byF g), .var (pl fun _ => 0), .var (pl fun _ => 0), .var (pl p), .var (srcD (1 + len) (consG g) 0 h1)] (Taken.of [0, 1, 2, 3, 6] (LeAll.cons (by rfl) (by first | with_reducible exact Root.Le.refl _ | with_reducible exact le_dead | (skip; done) | exact byLeq) (by exact byCon) (LeAll.cons (by rfl) (by first | with_reducible exact Root.Le.refl _ | with_reducible exact le_dead | (skip; done) | exact byLeq) (by exact byCon) (LeAll.cons (by rfl) (by first | with_reducible exact Root.Le.refl _ | with_reducible exact le_dead | (skip; done) | exact byLeq) (by exact byCon) (LeAll.cons (by rfl) (by first | with_reducible exact Root.Le.refl _ | with_reducible exact le_dead | (skip; done) | exact byLeq) (by exact byCon) (LeAll.cons (by rfl) (by first | with_reducible exact Root.Le.refl _ | with_reducible exact le_dead | (skip; done) | exact byLeq) (by exact byCon) (trivial)))))) rfl rfl) (by exact bySlots)) ?_
  have hdp := l01DrawPlaces_fn (1 + len) (consG g) (consG_lt hg) 0 h1 (if (16 : Int) < n then 16 else n) (by split <;> omega) (by split <;> omega) (Nat.zero_le _) (by omega)
  refine WP.seq ?_
  refine WP.da (by kernel_rfl) 4 (by kernel_rfl) ?_
  refine WA.takesD T false tok [1, 2, 5] (f' := 6) (by kernel_rfl) (by rfl) (by rfl) (by exact byObl) (by rfl) (by rfl) ?_
  refine WA.allTE [0, 3] (by kernel_rfl) (by simp) ?_; intro i' hi'; simp only [List.mem_cons, List.not_mem_nil, or_false] at hi'
  rcases hi' with rfl | rfl
  · refine ⟨_, _, rfl, by rfl, by rfl, .inl (MKE.of (MK.q (evalOp_q tok (wm := false) (by rfl) (by rfl) (by exact byObl)))), ?_⟩; rintro _ _ ⟨rfl, rfl⟩
    refine WA.allTE [3] (by kernel_rfl) (by simp) ?_; intro i' hi'; simp only [List.mem_cons, List.not_mem_nil, or_false] at hi'
    subst hi'
    refine ⟨_, _, rfl, by rfl, by rfl, .inl (MKE.of (MK.q (minD_ok rfl rfl rfl))), ?_⟩; rintro _ _ ⟨rfl, rfl⟩
    refine WA.allTE [4] (by kernel_rfl) (by simp) ?_; intro i' hi'; simp only [List.mem_cons, List.not_mem_nil, or_false] at hi'
    subst hi'
    refine ⟨_, fun v m' => ∃ (q : Nat → Nat) (a' : Nat) (h' : Int), v = pl q ∧ Bt 256 q ∧ m' = [.ro len 1 (byF g), .var (pl fun _ => 0), .var (pl fun _ => 0), .var (pl p), .var (srcD (1 + len) (consG g) a' h')], rfl, by rfl, by rfl, .inr ⟨by decide, TKE.call [4] (hdp) (LeAll.cons (by rfl) (by first | with_reducible exact Root.Le.refl _ | with_reducible exact le_dead | (skip; done) | exact byLeq) (by exact byCon) (trivial)) (by rfl) (by rfl) (by exact byArgs) (by simp [Sc, sc_pl, sc_ds]) ?_⟩, ?_⟩
    · rintro _ _ ⟨q, a', h', rfl, hq, _, rfl⟩
      exact ⟨⟨fun d hd => by cases hd; exact sc_src _ _ _ _ _, trivial⟩, pl q, ⟨rfl, sc_pl _ _⟩, sc_pl _ _, q, a', h', rfl, hq.mono (Nat.le_trans (bN_le (by split <;> omega)) (by decide)), rfl⟩
    rintro _ _ ⟨q, a', h', rfl, hq, rfl⟩
    refine WA.allTE [6] (by kernel_rfl) (by simp) ?_; intro i' hi'; simp only [List.mem_cons, List.not_mem_nil, or_false] at hi'
    subst hi'
    refine ⟨_, _, rfl, by rfl, by rfl, .inr ⟨by decide, TKE.of (TK.of tok (wm := false) (by rfl) (by exact byObl))⟩, ?_⟩; rintro _ _ ⟨rfl, rfl⟩
    refine WA.allTE [7] (by kernel_rfl) (by simp) ?_; intro i' hi'; simp only [List.mem_cons, List.not_mem_nil, or_false] at hi'
    subst hi'
    refine ⟨_, _, rfl, by rfl, by rfl, .inr ⟨by decide, TKE.of (TK.of tok (wm := false) (by rfl) (by exact byObl))⟩, ?_⟩; rintro _ _ ⟨rfl, rfl⟩
    refine WA.takesD T false tok [8] (f' := 0) (by kernel_rfl) (by rfl) (by rfl) (by exact byObl) (by rfl) (by rfl) ?_
    refine WA.end rfl (by kernel_rfl) (noPan ?_)
    exact WP.ret (Ends.newE [0] (⟨p, q, n, rfl, hp, hq, hn1, hn2, rfl⟩) (.inl rfl) (by rfl) (by exact byObl) (LeAll.cons (by rfl) (by first | with_reducible exact Root.Le.refl _ | with_reducible exact le_dead | (skip; done) | exact byLeq) (by exact byCon) (trivial)) rfl rfl (ren3d ⟨rfl, sc_pl _ _⟩ ⟨rfl, sc_pl _ _⟩ ⟨rfl, trivial⟩) (sc_t3 (sc_pl _ _) (sc_pl _ _) trivial))
  · refine ⟨_, _, rfl, by rfl, by rfl, .inl (MKE.of (MK.q (minD_ok rfl rfl rfl))), ?_⟩; rintro _ _ ⟨rfl, rfl⟩
    refine WA.allTE [0, 4] (by kernel_rfl) (by simp) ?_; intro i' hi'; simp only [List.mem_cons, List.not_mem_nil, or_false] at hi'
    rcases hi' with rfl | rfl
    · refine ⟨_, _, rfl, by rfl, by rfl, .inl (MKE.of (MK.q (evalOp_q tok (wm := false) (by rfl) (by rfl) (by exact byObl)))), ?_⟩; rintro _ _ ⟨rfl, rfl⟩
      refine WA.allTE [4] (by kernel_rfl) (by simp) ?_; intro i' hi'; simp only [List.mem_cons, List.not_mem_nil, or_false] at hi'
      subst hi'
      refine ⟨_, fun v m' => ∃ (q : Nat → Nat) (a' : Nat) (h' : Int), v = pl q ∧ Bt 256 q ∧ m' = [.ro len 1 (byF g), .var (pl fun _ => 0), .var (pl fun _ => 0), .var (pl p), .var (srcD (1 + len) (consG g) a' h')], rfl, by rfl, by rfl, .inr ⟨by decide, TKE.call [4] (hdp) (LeAll.cons (by rfl) (by first | with_reducible exact Root.Le.refl _ | with_reducible exact le_dead | (skip; done) | exact byLeq) (by exact byCon) (trivial)) (by rfl) (by rfl) (by exact byArgs) (by simp [Sc, sc_pl, sc_ds]) ?_⟩, ?_⟩
      · rintro _ _ ⟨q, a', h', rfl, hq, _, rfl⟩
        exact ⟨⟨fun d hd => by cases hd; exact sc_src _ _ _ _ _, trivial⟩, pl q, ⟨rfl, sc_pl _ _⟩, sc_pl _ _, q, a', h', rfl, hq.mono (Nat.le_trans (bN_le (by split <;> omega)) (by decide)), rfl⟩
      rintro _ _ ⟨q, a', h', rfl, hq, rfl⟩
      refine WA.allTE [6] (by kernel_rfl) (by simp) ?_; intro i' hi'; simp only [List.mem_cons, List.not_mem_nil, or_false] at hi'
      subst hi'
      refine ⟨_, _, rfl, by rfl, by rfl, .inr ⟨by decide, TKE.of (TK.of tok (wm := false) (by rfl) (by exact byObl))⟩, ?_⟩; rintro _ _ ⟨rfl, rfl⟩
      refine WA.allTE [7] (by kernel_rfl) (by simp) ?_; intro i' hi'; simp only [List.mem_cons, List.not_mem_nil, or_false] at hi'
      subst hi'
      refine ⟨_, _, rfl, by rfl, by rfl, .inr ⟨by decide, TKE.of (TK.of tok (wm := false) (by rfl) (by exact byObl))⟩, ?_⟩; rintro _ _ ⟨rfl, rfl⟩
      refine WA.takesD T false tok [8] (f' := 0) (by kernel_rfl) (by rfl) (by rfl) (by exact byObl) (by rfl) (by rfl) ?_
      refine WA.end rfl (by kernel_rfl) (noPan ?_)
      exact WP.ret (Ends.newE [0] (⟨p, q, n, rfl, hp, hq, hn1, hn2, rfl⟩) (.inl rfl) (by rfl) (by exact byObl) (LeAll.cons (by rfl) (by first | with_reducible exact Root.Le.refl _ | with_reducible exact le_dead | (skip; done) | exact byLeq) (by exact byCon) (trivial)) rfl rfl (ren3d ⟨rfl, sc_pl _ _⟩ ⟨rfl, sc_pl _ _⟩ ⟨rfl, trivial⟩) (sc_t3 (sc_pl _ _) (sc_pl _ _) trivial))
    · refine ⟨_, fun v m' => ∃ (q : Nat → Nat) (a' : Nat) (h' : Int), v = pl q ∧ Bt 256 q ∧ m' = [.ro len 1 (byF g), .var (pl fun _ => 0), .var (pl fun _ => 0), .var (pl p), .var (srcD (1 + len) (consG g) a' h')], rfl, by rfl, by rfl, .inr ⟨by decide, TKE.call [4] (hdp) (LeAll.cons (by rfl) (by first | with_reducible exact Root.Le.refl _ | with_reducible exact le_dead | (skip; done) | exact byLeq) (by exact byCon) (trivial)) (by rfl) (by rfl) (by exact byArgs) (by simp [Sc, sc_pl, sc_ds]) ?_⟩, ?_⟩
      · rintro _ _ ⟨q, a', h', rfl, hq, _, rfl⟩
        exact ⟨⟨fun d hd => by cases hd; exact sc_src _ _ _ _ _, trivial⟩, pl q, ⟨rfl, sc_pl _ _⟩, sc_pl _ _, q, a', h', rfl, hq.mono (Nat.le_trans (bN_le (by split <;> omega)) (by decide)), rfl⟩
      rintro _ _ ⟨q, a', h', rfl, hq, rfl⟩
      refine WA.allTE [0] (by kernel_rfl) (by simp) ?_; intro i' hi'; simp only [List.mem_cons, List.not_mem_nil, or_false] at hi'
      subst hi'
      refine ⟨_, _, rfl, by rfl, by rfl, .inl (MKE.of (MK.q (evalOp_q tok (wm := false) (by rfl) (by rfl) (by exact byObl)))), ?_⟩; rintro _ _ ⟨rfl, rfl⟩
      refine WA.allTE [6] (by kernel_rfl) (by simp) ?_; intro i' hi'; simp only [List.mem_cons, List.not_mem_nil, or_false] at hi'
      subst hi'
      refine ⟨_, _, rfl, by rfl, by rfl, .inr ⟨by decide, TKE.of (TK.of tok (wm := false) (by rfl) (by exact byObl))⟩, ?_⟩; rintro _ _ ⟨rfl, rfl⟩
      refine WA.allTE [7] (by kernel_rfl) (by simp) ?_; intro i' hi'; simp only [List.mem_cons, List.not_mem_nil, or_false] at hi'
      subst hi'
      refine ⟨_, _, rfl, by rfl, by rfl, .inr ⟨by decide, TKE.of (TK.of tok (wm := false) (by rfl) (by exact byObl))⟩, ?_⟩; rintro _ _ ⟨rfl, rfl⟩
      refine WA.takesD T false tok [8] (f' := 0) (by kernel_rfl) (by rfl) (by rfl) (by exact byObl) (by rfl) (by rfl) ?_
      refine WA.end rfl (by kernel_rfl) (noPan ?_)
      exact WP.ret (Ends.newE [0] (⟨p, q, n, rfl, hp, hq, hn1, hn2, rfl⟩) (.inl rfl) (by rfl) (by exact byObl) (LeAll.cons (by rfl) (by first | with_reducible exact Root.Le.refl _ | with_reducible exact le_dead | (skip; done) | exact byLeq) (by exact byCon) (trivial)) rfl rfl (ren3d ⟨rfl, sc_pl _ _⟩ ⟨rfl, sc_pl _ _⟩ ⟨rfl, trivial⟩) (sc_t3 (sc_pl _ _) (sc_pl _ _) trivial))

end Go.Proofs.Ytakapfgjdhliaaa
