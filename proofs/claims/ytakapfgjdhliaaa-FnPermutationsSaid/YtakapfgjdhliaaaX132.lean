import Derived.Test.YtakapfgjdhliaaaX131
import Derived.Test.YtakapfgjdhliaaaD22
/- Draws: permutations made of cycles of pairs and more. -/
namespace Go.Proofs.Ytakapfgjdhliaaa
open Go.RowKit DM
set_option linter.unusedSimpArgs false
set_option linter.unusedVariables false
set_option maxRecDepth 100000
set_option maxHeartbeats 1000000

theorem minD_ok {P : Program} {o : Oper} {fr : Nat → Dat} {m : List Root} {x y : Operand} {ts : Array TypeId} {k : IntKind} {a b : Int} (ho : o.op = .call { callee := .builtin .min, args := #[x, y], argTypes := ts }) (hx : ev fr x = .i k a) (hy : ev fr y = .i k b) : QOK P o fr m (.i k (if b < a then b else a)) m :=
  .of_run fun N ρ ac w hf hr => by
    obtain ⟨h0, _⟩ := ev_eq hf (x := x) hx (by simp)
    obtain ⟨h1, _⟩ := ev_eq hf (x := y) hy (by simp)
    refine ⟨?_, trivial, trivial, trivial⟩
    simp [execOp, ho, resolve, invoke, builtin, h0, h1, enc, leaf, Builtin.min_, Builtin.min2, Result.andThen]

theorem l01Pairs_fn (len : Nat) (g : Nat → Nat) (hg : ∀ j, g j < 256) (a : Nat) (h : Int) (n : Nat) (most : Int) (hn1 : 1 ≤ n) (hn : n ≤ 16) (hm : most ≤ 1000) (ha : a ≤ len) (hl : len ≤ 4294967296) :
    FnS Try.prog 60 [.p 0 [] 0, .i .i64 (n : Int), .i .i64 most] [.var (srcD len g a h)] fun r m' => ∃ (p : Nat → Nat) (a' : Nat) (h' : Int), r = pl p ∧ Bt n p ∧ a' ≤ len ∧ m' = [.var (srcD len g a' h')] := by
  have hSc : ∀ (k : Nat) (h : Int), Sc k (srcD len g a h) := fun k h => sc_src k len g a h
  have hdp := l01DrawPlaces_fn len g hg a h (n : Int) (by omega) (by omega) ha hl
  refine FnS.intoE T tok Try.func60 (by rfl) rfl rfl rfl (by simp) ?_
  refine WP.rs T false tok (by rfl) (by exact byObl) ?_
  refine WP.rw ?_
  refine WPL.run T false 2 tok (by rfl) (by exact byObl) ?_
  refine WPL.callE [0] (hdp) (LeAll.cons (by rfl) (by first | with_reducible exact Root.Le.refl _ | with_reducible exact le_dead | (skip; done) | exact byLeq) (by exact byCon) (trivial)) (by rfl) (by rfl) (by exact byArgs) (by rfl) (by rfl) (by simp [Sc, sc_pl, sc_ds]) ?_
  rintro _ _ ⟨p, a', h', rfl, hp, ha', rfl⟩
  rw [bN_nat hn1] at hp
  refine ⟨⟨fun d hd => by cases hd; exact sc_src _ _ _ _ _, trivial⟩, pl p, ⟨rfl, sc_pl _ _⟩, sc_pl _ _, ?_⟩
  refine WPL.mem (by rfl) ?_
  have hSc : ∀ (k : Nat) (h : Int), Sc k (srcD len g a' h) := fun k h => sc_src k len g a' h
  refine WPL.run T false 1 tok (by rfl) (by exact byObl) ?_
  refine WPL.call (l01Same_fn n hn) (by rfl) (by rfl) (by rfl) (by simp [Sc, sc_pl, sc_ds, pl_ne, ds_ne]) ?_
  refine WPL.fin T false tok (by rfl) (by exact byObl) ?_
  refine WP.seq ?_
  refine WP.rs T false tok (by rfl) (by exact byObl) ?_
  refine WP.block ?_
  refine WP.loopH (⟨fun z : Nat × (Nat → Nat) × Nat × Int => z.1 ≤ n ∧ Bt n z.2.1 ∧ z.2.2.1 ≤ len, fun z => [(0, .p 0 [] 0), (1, .i .i64 (n : Int)), (2, .i .i64 most), (6, .p 1 [] 0), (7, .p 2 [] 0), (8, .p 3 [] 0), (9, .i .i64 (z.1 : Int))], fun z => [.var (srcD len g z.2.2.1 z.2.2.2), .var (pl fun _ => 0), .var (pl p), .var (pl z.2.1)], fun z => n - z.1⟩) ((0, fillF (fun i => i) n, a', h')) (⟨Nat.zero_le _, by have := bt_fill (n := (n : Int)) (by omega); rw [bN_nat hn1] at this; exact this, ha'⟩) (Ghost.cut (Nat.le_refl _) (tauOf [0, 1, 2, 3]) _ _ (Taken.of [0, 1, 2, 3] (LeAll.cons (by rfl) (by first | with_reducible exact Root.Le.refl _ | with_reducible exact le_dead | (skip; done) | exact byLeq) (by exact byCon) (LeAll.cons (by rfl) (by first | with_reducible exact Root.Le.refl _ | with_reducible exact le_dead | (skip; done) | exact byLeq) (by exact byCon) (LeAll.cons (by rfl) (by first | with_reducible exact Root.Le.refl _ | with_reducible exact le_dead | (skip; done) | exact byLeq) (by exact byCon) (LeAll.cons (by rfl) (by first | with_reducible exact Root.Le.refl _ | with_reducible exact le_dead | (skip; done) | exact byLeq) (by exact byCon) (trivial))))) rfl rfl) (by exact bySlots)) ?_
  rintro ⟨x, q, c, h1⟩ ⟨hx, hq, hcl⟩
  dsimp only at hx hq hcl
  dsimp only [Hd.at]
  have hSc : ∀ (k : Nat) (h : Int), Sc k (srcD len g c h) := fun k h => sc_src k len g c h
  refine WP.seq ?_
  refine WP.rs T false tok (by rfl) (by exact byObl) ?_
  refine WP.cond (by rfl) (fun hc => WP.skip ?_) (fun hc => WP.exit ?_)
  · have hx : x < n := by have := of_decide_eq_true hc; omega
    clear hc
    have hnx := l01Next_fn len g hg c h1 most hcl hl
    refine WP.block ?_
    refine WP.rw ?_
    refine WPL.run T false 2 tok (by rfl) (by exact byObl) ?_
    refine WPL.callE [0] (hnx) (LeAll.cons (by rfl) (by first | with_reducible exact Root.Le.refl _ | with_reducible exact le_dead | (skip; done) | exact byLeq) (by exact byCon) (trivial)) (by rfl) (by rfl) (by exact byArgs) (by rfl) (by rfl) (by simp [Sc, sc_pl, sc_ds]) ?_
    rintro _ _ ⟨y, c', h2, rfl, hy1, hy0, hc', rfl⟩
    obtain ⟨t, rfl, htm⟩ : ∃ t : Nat, y = t ∧ t ≤ 1000 := by
      by_cases h : 1 ≤ most
      · obtain ⟨g1, g2⟩ := hy1 h; exact ⟨y.toNat, by omega, by omega⟩
      · have := hy0 (by omega); exact ⟨0, by omega, by omega⟩
    refine ⟨⟨fun d hd => by cases hd; exact sc_src _ _ _ _ _, trivial⟩, .i .i64 (t : Int), ⟨rfl, trivial⟩, trivial, ?_⟩
    refine WPL.mem (by rfl) ?_
    have hSc : ∀ (k : Nat) (h : Int), Sc k (srcD len g c' h) := fun k h => sc_src k len g c' h
    refine WPL.run T false 4 tok (by rfl) (by exact byObl) ?_
    refine WPL.op (by rfl) (by rfl) (QOK.op (minD_ok rfl rfl rfl)) ?_
    obtain ⟨L, eL, hL1, hL2⟩ : ∃ L : Nat, (if (n : Int) - (x : Int) < 1 + (t : Int) then (n : Int) - (x : Int) else 1 + (t : Int)) = (L : Int) ∧ 1 ≤ L ∧ x + L ≤ n := by
      split
      · exact ⟨n - x, by omega, by omega, by omega⟩
      · exact ⟨1 + t, by omega, by omega, by omega⟩
    rw [eL]
    refine WPL.fin T false tok (by rfl) (by exact byObl) ?_
    refine WP.seq ?_
    refine WP.rs T false tok (by rfl) (by exact byObl) ?_
    refine WP.block ?_
    refine WP.loopH (⟨fun z : Nat × (Nat → Nat) => z.1 ≤ L ∧ Bt n z.2, fun z => [(0, .p 0 [] 0), (1, .i .i64 (n : Int)), (2, .i .i64 most), (6, .p 1 [] 0), (7, .p 2 [] 0), (8, .p 3 [] 0), (9, .i .i64 (x : Int)), (10, .i .i64 (L : Int)), (11, .i .i64 (z.1 : Int))], fun z => [.var (srcD len g c' h2), .var (pl fun _ => 0), .var (pl p), .var (pl z.2)], fun z => L - z.1⟩) ((0, q)) (⟨Nat.zero_le _, hq⟩) (Ghost.cut (Nat.le_refl _) (tauOf [0, 1, 2, 3]) _ _ (Taken.of [0, 1, 2, 3] (LeAll.cons (by rfl) (by first | with_reducible exact Root.Le.refl _ | with_reducible exact le_dead | (skip; done) | exact byLeq) (by exact byCon) (LeAll.cons (by rfl) (by first | with_reducible exact Root.Le.refl _ | with_reducible exact le_dead | (skip; done) | exact byLeq) (by exact byCon) (LeAll.cons (by rfl) (by first | with_reducible exact Root.Le.refl _ | with_reducible exact le_dead | (skip; done) | exact byLeq) (by exact byCon) (LeAll.cons (by rfl) (by first | with_reducible exact Root.Le.refl _ | with_reducible exact le_dead | (skip; done) | exact byLeq) (by exact byCon) (trivial))))) rfl rfl) (by exact bySlots)) ?_
    rintro ⟨j, q1⟩ ⟨hj, hq1⟩
    dsimp only at hj hq1
    dsimp only [Hd.at]
    refine WP.seq ?_
    refine WP.rs T false tok (by rfl) (by exact byObl) ?_
    refine WP.cond (by rfl) (fun hc => WP.skip ?_) (fun hc => WP.exit ?_)
    · have hj : j < L := by have := of_decide_eq_true hc; omega
      clear hc
      have hb0 : 0 ≤ ((j : Int) + 1).tmod (L : Int) := Int.tmod_nonneg _ (by omega)
      have hb1 : ((j : Int) + 1).tmod (L : Int) < L := Int.tmod_lt_of_pos _ (by omega)
      have hp1 := hp.lt ((x : Int) + (j : Int)).toNat
      have hp2 := hp.lt (x + j)
      have hp3 := hp.lt ((x : Int) + ((j : Int) + 1).tmod (L : Int)).toNat
      refine WP.seq (WP.block ?_)
      refine WP.da (by kernel_rfl) 14 (by kernel_rfl) ?_
      refine WA.takes T false tok [0, 1, 2, 3, 4, 5, 6, 7, 8, 9, 10] (f' := 4) (by kernel_rfl) (by rfl) (by rfl) (by rfl) (by exact byObl) (by rfl) (by rfl) ?_
      refine WA.takes T false tok [11, 12, 13] (f' := 1) (by kernel_rfl) (by rfl) (by rfl) (by rfl) (by exact byObl) (by rfl) (by rfl) ?_
      refine WA.tail (by rfl) (by rfl) (by kernel_rfl) ?_
      refine WPL.fin T false tok (by rfl) (by exact byObl) ?_
      refine noPan ?_
      refine WP.run T false tok (by rfl) (by exact byObl) ?_
      refine Again.next ((j + 1, up q1 (p ((x : Int) + (j : Int)).toNat) (p ((x : Int) + ((j : Int) + 1).tmod (L : Int)).toNat))) (Ghost.cut (Nat.le_refl _) (tauOf [0, 1, 2, 3]) _ _ (Taken.of [0, 1, 2, 3] (LeAll.cons (by rfl) (by first | with_reducible exact Root.Le.refl _ | with_reducible exact le_dead | (skip; done) | exact byLeq) (by exact byCon) (LeAll.cons (by rfl) (by first | with_reducible exact Root.Le.refl _ | with_reducible exact le_dead | (skip; done) | exact byLeq) (by exact byCon) (LeAll.cons (by rfl) (by first | with_reducible exact Root.Le.refl _ | with_reducible exact le_dead | (skip; done) | exact byLeq) (by exact byCon) (LeAll.cons (by rfl) (by first | with_reducible exact Root.Le.refl _ | with_reducible exact le_dead | (skip; done) | exact byLeq) (by exact byCon) (trivial))))) rfl rfl) (by exact bySlots)) (⟨by omega, hq1.up (by omega) hp3⟩) (by dsimp only; omega)
    · have hj : j = L := by have := of_decide_eq_false hc; omega
      subst hj
      clear hc
      refine WP.run T false tok (by rfl) (by exact byObl) ?_
      refine Again.next ((x + j, q1, c', h2)) (Ghost.cut (Nat.le_refl _) (tauOf [0, 1, 2, 3]) _ _ (Taken.of [0, 1, 2, 3] (LeAll.cons (by rfl) (by first | with_reducible exact Root.Le.refl _ | with_reducible exact le_dead | (skip; done) | exact byLeq) (by exact byCon) (LeAll.cons (by rfl) (by first | with_reducible exact Root.Le.refl _ | with_reducible exact le_dead | (skip; done) | exact byLeq) (by exact byCon) (LeAll.cons (by rfl) (by first | with_reducible exact Root.Le.refl _ | with_reducible exact le_dead | (skip; done) | exact byLeq) (by exact byCon) (LeAll.cons (by rfl) (by first | with_reducible exact Root.Le.refl _ | with_reducible exact le_dead | (skip; done) | exact byLeq) (by exact byCon) (trivial))))) rfl rfl) (by exact bySlots)) (⟨by omega, hq1, hc'⟩) (by dsimp only; omega)
  · refine WP.rs T false tok (by rfl) (by exact byObl) ?_
    exact WP.ret (Ends.newE [0] (⟨q, c, h1, rfl, hq, hcl, rfl⟩) (.inl rfl) (by rfl) (by exact byObl) (LeAll.cons (by rfl) (by first | with_reducible exact Root.Le.refl _ | with_reducible exact le_dead | (skip; done) | exact byLeq) (by exact byCon) (trivial)) rfl rfl (⟨rfl, sc_pl _ _⟩) (sc_pl _ _))

end Go.Proofs.Ytakapfgjdhliaaa
