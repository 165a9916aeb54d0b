import Derived.Test.YtaafldclbdlgfaaL9
import Derived.Test.YtaafldclbdlgfaaD22
import Derived.Test.YtaafldclbdlgfaaX9
/- Blocks: the program's classes, and their joining. -/
namespace Go.Proofs.Ytaafldclbdlgfaa
open Go.RowKit DM
set_option linter.unusedSimpArgs false
set_option linter.unusedVariables false
set_option maxRecDepth 100000
set_option maxHeartbeats 1000000

theorem minN_ok {P : Program} {o : Oper} {fr : Nat → Dat} {m : List Root} {x y : Operand} {ts : Array TypeId} {k : IntKind} {a b : Nat} (ho : o.op = .call { callee := .builtin .min, args := #[x, y], argTypes := ts }) (hx : ev fr x = .i k (a : Int)) (hy : ev fr y = .i k (b : Int)) : QOK P o fr m (.i k ((min a b : Nat) : Int)) m :=
  .of_run fun N ρ ac w hf hr => by
    obtain ⟨h0, _⟩ := ev_eq hf (x := x) hx (by simp)
    obtain ⟨h1, _⟩ := ev_eq hf (x := y) hy (by simp)
    refine ⟨?_, trivial, trivial, trivial⟩
    simp only [execOp, ho, resolve, invoke, builtin, h0, h1, enc, leaf, Builtin.min_, Builtin.min2, Result.andThen]
    by_cases c : b < a
    · rw [Nat.min_eq_right (by omega)]; simp [c, h0, h1, enc, leaf, Builtin.min2, Result.andThen]
    · rw [Nat.min_eq_left (by omega)]; simp [c, h0, h1, enc, leaf, Builtin.min2, Result.andThen]

theorem maxN_ok {P : Program} {o : Oper} {fr : Nat → Dat} {m : List Root} {x y : Operand} {ts : Array TypeId} {k : IntKind} {a b : Nat} (ho : o.op = .call { callee := .builtin .max, args := #[x, y], argTypes := ts }) (hx : ev fr x = .i k (a : Int)) (hy : ev fr y = .i k (b : Int)) : QOK P o fr m (.i k ((max a b : Nat) : Int)) m :=
  .of_run fun N ρ ac w hf hr => by
    obtain ⟨h0, _⟩ := ev_eq hf (x := x) hx (by simp)
    obtain ⟨h1, _⟩ := ev_eq hf (x := y) hy (by simp)
    refine ⟨?_, trivial, trivial, trivial⟩
    simp only [execOp, ho, resolve, invoke, builtin, h0, h1, enc, leaf, Builtin.max_, Builtin.max2, Result.andThen]
    by_cases c : a < b
    · rw [Nat.max_eq_right (by omega)]; simp [c, h0, h1, enc, leaf, Builtin.max2, Result.andThen]
    · rw [Nat.max_eq_left (by omega)]; simp [c, h0, h1, enc, leaf, Builtin.max2, Result.andThen]

theorem ap_idn (k : Nat) (z : Dat) (j : Nat) (hj : j < k + 1) : nmF (fun i => i) j = apF k (nmF fun i => i) 0 (fup (fun _ => z) 0 (.i .i64 ((k : Nat) : Int))) j := by
  unfold apF nmF
  by_cases h : j < k
  · rw [blt_true h]; rfl
  · have e : j = k := by omega
    subst e
    rw [blt_false (Nat.lt_irrefl _)]
    simp [fup]

theorem newClasses_fn (n : Nat) (hn : n ≤ 16) : FnS Try.prog 73 [.i .i64 n] [] (fun r m' => r = .sl 0 0 n 1 ∧ m' = [.row 2 n 1 (nmF fun i => i)]) := by
  refine FnS.intoN T tok Try.func73 (by rfl) rfl rfl rfl (by simp) ?_
  refine WP.rs T false tok (by rfl) (by exact byObl) ?_
  refine WP.rs T false tok (by rfl) (by exact byObl) ?_
  refine WP.seq ?_
  refine WP.rs T false tok (by rfl) (by exact byObl) ?_
  refine WP.block ?_
  refine WP.loopH (⟨fun k : Nat => k ≤ n, fun k => [(3, .sl 0 0 k 1), (6, .i .i64 (n : Int)), (7, .i .i64 (k : Int))], fun k => [.row 2 k 1 (nmF fun i => i)], fun k => n - k⟩) (0) (Nat.zero_le _) (Ghost.cut (Nat.le_refl _) (tauOf [0]) _ _ (Taken.of [0] (LeAll.cons (by rfl) (by first | with_reducible exact Root.Le.refl _ | with_reducible exact le_dead | (exact le_row (Nat.le_refl _) (fun j hj => absurd hj (Nat.not_lt_zero _))) | exact byLeq) (by exact byCon) (trivial)) rfl rfl) (by exact bySlots)) ?_
  intro k hk
  dsimp only at hk
  dsimp only [Hd.at]
  refine WP.rs T false tok (by rfl) (by exact byObl) ?_
  refine WP.seq ?_
  refine WP.cond (by rfl) (fun hc => WP.skip ?_) (fun hc => WP.exit ?_)
  · have hk : k < n := by have := of_decide_eq_true hc; omega
    clear hc
    refine WP.seq (WP.block ?_)
    refine WP.rs T false tok (by rfl) (by exact byObl) ?_
    refine WP.run T false tok (by rfl) (by exact byObl) ?_
    refine WP.run T false tok (by rfl) (by exact byObl) ?_
    refine Again.next (k + 1) (Ghost.cut (Nat.le_refl _) (tauOf [2]) _ _ (Taken.of [2] (LeAll.cons (by rfl) (by first | with_reducible exact Root.Le.refl _ | with_reducible exact le_dead | (exact le_row (Nat.le_refl _) (fun j hj => ap_idn k _ j hj)) | exact byLeq) (by exact byCon) (trivial)) rfl rfl) (by exact bySlots)) (hk) (by dsimp only; omega)
  · have hk : k = n := by have := of_decide_eq_false hc; omega
    subst hk
    refine WP.rs T false tok (by rfl) (by exact byObl) ?_
    exact WP.ret (Ends.new [0] (by rfl) (by exact byObl) (LeAll.cons (by rfl) (by first | with_reducible exact Root.Le.refl _ | with_reducible exact le_dead | (skip; done) | exact byLeq) (by exact byCon) (trivial)) rfl rfl (rfl) (sc_sl rfl))

theorem join_fn (n : Nat) (f : Nat → Nat) (x y : Nat) (hn : n ≤ 16) (hx : x < n) (hy : y < n) : FnS Try.prog 74 [.sl 0 0 n 1, .i .i64 (x : Int), .i .i64 (y : Int)] [.row 2 n 1 (nmF f)]
    (fun r m' => r = .b (!decide (((min (f x) (f y) : Nat) : Int) = ((max (f x) (f y) : Nat) : Int))) ∧ m' = [.row 2 n 1 (nmF (joinF f (max (f x) (f y)) (min (f x) (f y))))]) := by
  refine FnS.intoN T tok Try.func74 (by rfl) rfl rfl rfl (by simp) ?_
  refine WP.rs T false tok (by rfl) (by exact byObl) ?_
  refine WP.dw (by kernel_rfl) (by kernel_rfl) ?_
  refine WQ.run T false 8 tok (by rfl) (by rfl) (by exact byObl) ?_
  refine WQ.op (by rfl) (by rfl) (minN_ok (a := f x) (b := f y) rfl rfl rfl) ?_
  refine WQ.run T false 8 tok (by rfl) (by rfl) (by exact byObl) ?_
  refine WQ.op (by rfl) (by rfl) (maxN_ok (a := f x) (b := f y) rfl rfl rfl) ?_
  refine WQ.fin T false tok (by rfl) (by rfl) (by exact byObl) ?_
  generalize max (f x) (f y) = s
  generalize min (f x) (f y) = t
  refine WP.seq ?_
  refine WP.rs T false tok (by rfl) (by exact byObl) ?_
  refine WP.block ?_
  refine WP.loopH (⟨fun k : Nat => k ≤ n, fun k => [(0, .sl 0 0 n 1), (7, .i .i64 (t : Int)), (8, .i .i64 (s : Int)), (29, .sl 0 0 n 1), (30, .i .i64 (n : Int)), (31, .i .i64 (k : Int))], fun k => [.row 2 n 1 (nmF (pj f s t k))], fun k => n - k⟩) (0) (Nat.zero_le _) (Ghost.cut (Nat.le_refl _) (tauOf [0]) _ _ (Taken.of [0] (LeAll.cons (by rfl) (by first | with_reducible exact Root.Le.refl _ | with_reducible exact le_dead | ((rw [pj_zero]; exact Root.Le.refl _)) | exact byLeq) (by exact byCon) (trivial)) rfl rfl) (by exact bySlots)) ?_
  intro k hk
  dsimp only at hk
  dsimp only [Hd.at]
  refine WP.rs T false tok (by rfl) (by exact byObl) ?_
  refine WP.seq ?_
  refine WP.cond (by rfl) (fun hc => WP.skip ?_) (fun hc => WP.exit ?_)
  · have hk : k < n := by have := of_decide_eq_true hc; omega
    clear hc
    refine WP.seq (WP.block ?_)
    refine WP.rs T false tok (by rfl) (by exact byObl) ?_
    refine WP.rs T false tok (by rfl) (by exact byObl) ?_
    refine WP.cond (by rfl) (fun h => ?_) (fun h => WP.skip ?_)
    · have h : f k = s := by
        have h := of_decide_eq_true h
        simp only [addrAt0, Int.toNat_natCast] at h
        have : pj f s t k k = s := by exact_mod_cast h
        rwa [pj_at] at this
      refine WP.run T false tok (by rfl) (by exact byObl) ?_
      refine WP.run T false tok (by rfl) (by exact byObl) ?_
      refine Again.next (k + 1) (Ghost.cut (Nat.le_refl _) (tauOf [0]) _ _ (Taken.of [0] (LeAll.cons (by rfl) (by first | with_reducible exact Root.Le.refl _ | with_reducible exact le_dead | (exact le_row (Nat.le_refl _) (fun j hj => by rw [← pj_hit h]; exact congrFun (nm_up _ _ _) j)) | exact byLeq) (by exact byCon) (trivial)) rfl rfl) (by exact bySlots)) (hk) (by dsimp only; omega)
    · have h : f k ≠ s := by
        have h := of_decide_eq_false h
        simp only [addrAt0, Int.toNat_natCast] at h
        intro e
        rw [pj_at, e] at h
        exact h rfl
      refine WP.run T false tok (by rfl) (by exact byObl) ?_
      refine Again.next (k + 1) (Ghost.cut (Nat.le_refl _) (tauOf [0]) _ _ (Taken.of [0] (LeAll.cons (by rfl) (by first | with_reducible exact Root.Le.refl _ | with_reducible exact le_dead | ((rw [pj_miss h]; exact Root.Le.refl _)) | exact byLeq) (by exact byCon) (trivial)) rfl rfl) (by exact bySlots)) (hk) (by dsimp only; omega)
  · have hk : k = n := by have := of_decide_eq_false hc; omega
    subst hk
    refine WP.rs T false tok (by rfl) (by exact byObl) ?_
    exact WP.ret (Ends.new [0] (by rfl) (by exact byObl) (LeAll.cons (by rfl) (by first | with_reducible exact Root.Le.refl _ | with_reducible exact le_dead | (exact le_row (Nat.le_refl _) (fun j hj => by simp only [nmF, pj_lt hj])) | exact byLeq) (by exact byCon) (trivial)) rfl rfl (⟨rfl, trivial⟩) (trivial))

end Go.Proofs.Ytaafldclbdlgfaa
