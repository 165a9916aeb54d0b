import Derived.Test.YtokhjhkicledmaaX83
import Derived.Test.YtokhjhkicledmaaL29
import Derived.Test.YtokhjhkicledmaaD29
/- Derived groups, the program's side: the group that changes nothing; what the closure 'take' does. -/
namespace Go.Proofs.Ytokhjhkicledmaa
open Go.RowKit DM
set_option linter.unusedSimpArgs false
set_option linter.unusedVariables false
set_option maxRecDepth 100000
set_option maxHeartbeats 1000000

theorem cloneNil_fn : FnS Try.prog 82 [.ns] [] fun r m' => r = .ns ∧ m' = [] := by
  refine FnS.intoN T tok Try.func82 (by rfl) rfl rfl rfl (by simp) ?_
  refine WP.rs T false tok (by rfl) (by exact byObl) ?_
  refine WP.seq ?_
  refine WP.rw ?_
  refine WPL.run T false 1 tok (by rfl) (by exact byObl) ?_
  refine WPL.op (by rfl) (by rfl) (QOK.op (nsEq_ok tok rfl rfl rfl rfl)) ?_
  refine WPL.fin T false tok (by rfl) (by exact byObl) ?_
  refine WP.cond (by rfl) (fun h => ?_) (fun h => WP.skip ?_)
  · refine WP.rs T false tok (by rfl) (by exact byObl) ?_
    exact WP.ret (Ends.new [] (by rfl) (by exact byObl) (trivial) rfl rfl (⟨rfl, trivial⟩) (trivial))
  · cases h

theorem groupNil_fn (N : Nat) (hN : N ≤ 16) : FnS Try.prog 55 [.i .i64 (N : Int), .ns] [] fun r m' => r = .p 0 [] 0 ∧ ∃ has tab, m' = [.var (grD N has tab)] ∧ GrOk N [] has tab := by
  have hL : ∀ g ∈ ([] : List (Nat → Nat)), Np N g := fun g hg => absurd hg List.not_mem_nil
  refine FnS.intoE T tok Try.func55 (by rfl) rfl rfl rfl (by simp) ?_
  refine WP.rs T false tok (by rfl) (by exact byObl) ?_
  refine WP.rs T false tok (by rfl) (by exact byObl) ?_
  refine WP.seq ?_
  refine WP.rs T false tok (by rfl) (by exact byObl) ?_
  refine WP.block ?_
  refine WP.loopH (⟨fun i : Nat => i ≤ N, fun i => [(0, .i .i64 (N : Int)), (1, .ns), (5, .p 0 [] 0), (16, .i .i64 (N : Int)), (17, .i .i64 (i : Int))], fun i => [.var (grD N (has0 i) (tabP N i))], fun i => N - i⟩) (0) (Nat.zero_le _) (Ghost.cut (Nat.le_refl _) (tauOf [0]) _ _ (Taken.of [0] (LeAll.cons (by rfl) (by first | with_reducible exact Root.Le.refl _ | with_reducible exact le_dead | (exact le_var (gr_zero rfl rfl rfl fun _ => rfl).symm) | exact byLeq) (by exact byCon) (trivial)) rfl rfl) (by exact bySlots)) ?_
  intro i hi
  dsimp only at hi
  dsimp only [Hd.at]
  refine WP.rs T false tok (by rfl) (by exact byObl) ?_
  refine WP.seq ?_
  refine WP.cond (by rfl) (fun hc => WP.skip ?_) (fun hc => WP.exit ?_)
  · have hi : i < N := by have := of_decide_eq_true hc; omega
    clear hc
    refine WP.seq (WP.block ?_)
    refine WP.rs T false tok (by rfl) (by exact byObl) ?_
    refine WP.seq ?_
    refine WP.da (by kernel_rfl) 9 (by kernel_rfl) ?_
    refine WA.takes T false tok [0, 1, 2, 3, 5, 6, 7] (f' := 3) (by kernel_rfl) (by rfl) (by rfl) (by rfl) (by exact byObl) (by rfl) (by rfl) ?_
    refine WA.all [4] (by kernel_rfl) (by simp) ?_; intro i' hi'; simp only [List.mem_cons, List.not_mem_nil, or_false] at hi'
    subst hi'
    refine ⟨_, _, _, rfl, by rfl, by rfl, MK.callP (same_fn N hN) (by rfl) (by simp [Sc, sc_pl, sc_ds, pl_ne, ds_ne]), ?_⟩
    refine WA.takes T false tok [8] (f' := 1) (by kernel_rfl) (by rfl) (by rfl) (by rfl) (by exact byObl) (by rfl) (by rfl) ?_
    refine WA.tail (by rfl) (by rfl) (by kernel_rfl) ?_
    refine WPL.fin T false tok (by rfl) (by exact byObl) ?_
    refine noPan ?_
    refine WP.run T false tok (by rfl) (by exact byObl) ?_
    refine WP.run T false tok (by rfl) (by exact byObl) ?_
    refine Again.next (i + 1) (Ghost.cut (Nat.le_refl _) (tauOf [0]) _ _ (Taken.of [0] (LeAll.cons (by rfl) (by first | with_reducible exact Root.Le.refl _ | with_reducible exact le_dead | (exact le_var (by rw [has0_step, tabP_step]; exact (gr_up N _ _ i i _).symm)) | exact byLeq) (by exact byCon) (trivial)) rfl rfl) (by exact bySlots)) (hi) (by dsimp only; omega)
  · have hi : i = N := by have := of_decide_eq_false hc; omega
    subst hi
    clear hc
    have hok := (Fill.start hN hL (by simp)).ok hN hL
    refine WP.rs T false tok (by rfl) (by exact byObl) ?_
    refine WP.rw ?_
    refine WPL.run T false 1 tok (by rfl) (by exact byObl) ?_
    refine WPL.callN [] (.ns) (cloneNil_fn) (trivial) (by rfl) (by rfl) (by exact byArgs) (by rfl) (by rfl) (by simp [Sc, sc_pl, sc_ds]) (by exact byAllc) (⟨rfl, trivial⟩) (by exact bySc) rfl ?_
    refine WPL.fin T false tok (by rfl) (by exact byObl) ?_
    refine WP.seq (WP.block ?_)
    refine WP.loopH (⟨fun _ : Unit => True, fun _ => [(0, .i .i64 (i : Int)), (5, .p 0 [] 0), (8, .ns)], fun _ => [.var (grD i (has0 i) (tab0 i))], fun _ => 0⟩) (()) (trivial) (Ghost.cut (Nat.le_refl _) (tauOf [0]) _ _ (Taken.of [0] (LeAll.cons (by rfl) (by first | with_reducible exact Root.Le.refl _ | with_reducible exact le_dead | (skip; done) | exact byLeq) (by exact byCon) (trivial)) rfl rfl) (by exact bySlots)) ?_
    rintro _ _
    dsimp only [Hd.at]
    refine WP.seq ?_
    refine WP.rs T false tok (by rfl) (by exact byObl) ?_
    refine WP.cond (by rfl) (fun hc => WP.skip ?_) (fun hc => WP.exit ?_)
    · simp at hc
    · refine WP.rs T false tok (by rfl) (by exact byObl) ?_
      exact WP.ret (Ends.newE [0] (⟨rfl, has0 i, tab0 i, rfl, hok⟩) (.inl rfl) (by rfl) (by exact byObl) (LeAll.cons (by rfl) (by first | with_reducible exact Root.Le.refl _ | with_reducible exact le_dead | (skip; done) | exact byLeq) (by exact byCon) (trivial)) rfl rfl (rfl) (sc_p rfl))

/-- The memory that 'take' sees. -/
def tkM (N : Nat) (L E : List (Nat → Nat)) (has : Nat → Nat → Bool) (tab : Nat → Nat → Nat → Nat) (y : Nat → Nat) : List Root := [.row 27 L.length 16 (rowP L), .var (.i .i64 (N : Int)), .var (.sl 5 0 E.length 16), .var (.p 4 [] 0), .var (grD N has tab), .row 27 E.length 16 (rowP E), .var (pl y)]
/-- .. and leaves, if the permutation is new. -/
def tkN (N : Nat) (L E : List (Nat → Nat)) (has : Nat → Nat → Bool) (tab : Nat → Nat → Nat → Nat) (y : Nat → Nat) : List Root := [.row 27 L.length 16 (rowP L), .var (.i .i64 (N : Int)), .var (.sl 7 0 E.length 16), .var (.p 8 [] 0), .dead, .dead, .var (pl y), .row 27 E.length 16 (rowP E), .var (grD N has tab)]

theorem take_fn (N : Nat) (hN : N ≤ 16) (L E : List (Nat → Nat)) (hE : ∀ g ∈ E, Np N g) (hl : E.length ≤ 256) {has : Nat → Nat → Bool} {tab : Nat → Nat → Nat → Nat} (hok : GrOk N E has tab) (y : Nat → Nat) (x : Nat → Nat) (hx : Np N x) :
    FnS Try.prog 84 [pl x, .p 3 [] 0, .p 2 [] 0, .p 1 [] 0] (tkM N L E has tab y) fun r m' => (∃ f, r = .tup 0 f) ∧ ((Grp N E x ∧ m' = tkM N L E has tab y) ∨ (¬ Grp N E x ∧ ∃ has' tab', m' = tkN N L (E ++ [x]) has' tab' y ∧ GrOk N (E ++ [x]) has' tab')) := by
  have hI := in_fn N hN has tab hok.1 x hx
  rw [hok.sift hN hx] at hI
  unfold tkM
  refine FnS.intoC T tok Try.func84 (by rfl) rfl rfl rfl (by simp) ?_
  refine WP.rs T false tok (by rfl) (by exact byObl) ?_
  refine WP.rw ?_
  refine WPL.run T false 2 tok (by rfl) (by exact byObl) ?_
  refine WPL.callN [4] (.b (inG N E x)) (hI) (LeAll.cons (by rfl) (by first | with_reducible exact Root.Le.refl _ | with_reducible exact le_dead | (skip; done) | exact byLeq) (by exact byCon) (trivial)) (by rfl) (by rfl) (by exact byArgs) (by rfl) (by rfl) (by simp [Sc, sc_pl, sc_ds]) (by exact byAllc) (⟨rfl, trivial⟩) (by exact bySc) rfl ?_
  refine WPL.fin T false tok (by rfl) (by exact byObl) ?_
  cases hg : inG N E x with
  | true =>
    have hin := inG_iff.1 hg
    refine WP.cond (by rfl) (fun h => ?_) (fun h => WP.skip ?_)
    · cases h
    · exact Ends.newC [0, 1, 2, 3, 4, 5, 6] (⟨⟨fun _ => .un, rfl⟩, .inl ⟨hin, rfl⟩⟩) (.inr rfl) (by rfl) (by exact byObl) (AllC.cons (by first | exact AllC.le (by rfl) (Root.Le.refl _) (hCon _) | exact AllC.ref (by rfl) ⟨rfl, ltb rfl⟩ | exact AllC.le (by rfl) (by first | with_reducible exact Root.Le.refl _ | with_reducible exact le_dead | (skip; done) | exact byLeq) (by exact byCon)) (AllC.cons (by first | exact AllC.le (by rfl) (Root.Le.refl _) (hCon _) | exact AllC.ref (by rfl) ⟨rfl, ltb rfl⟩ | exact AllC.le (by rfl) (by first | with_reducible exact Root.Le.refl _ | with_reducible exact le_dead | (skip; done) | exact byLeq) (by exact byCon)) (AllC.cons (by first | exact AllC.le (by rfl) (Root.Le.refl _) (hCon _) | exact AllC.ref (by rfl) ⟨rfl, ltb rfl⟩ | exact AllC.le (by rfl) (by first | with_reducible exact Root.Le.refl _ | with_reducible exact le_dead | (skip; done) | exact byLeq) (by exact byCon)) (AllC.cons (by first | exact AllC.le (by rfl) (Root.Le.refl _) (hCon _) | exact AllC.ref (by rfl) ⟨rfl, ltb rfl⟩ | exact AllC.le (by rfl) (by first | with_reducible exact Root.Le.refl _ | with_reducible exact le_dead | (skip; done) | exact byLeq) (by exact byCon)) (AllC.cons (by first | exact AllC.le (by rfl) (Root.Le.refl _) (hCon _) | exact AllC.ref (by rfl) ⟨rfl, ltb rfl⟩ | exact AllC.le (by rfl) (by first | with_reducible exact Root.Le.refl _ | with_reducible exact le_dead | (skip; done) | exact byLeq) (by exact byCon)) (AllC.cons (by first | exact AllC.le (by rfl) (Root.Le.refl _) (hCon _) | exact AllC.ref (by rfl) ⟨rfl, ltb rfl⟩ | exact AllC.le (by rfl) (by first | with_reducible exact Root.Le.refl _ | with_reducible exact le_dead | (skip; done) | exact byLeq) (by exact byCon)) (AllC.cons (by first | exact AllC.le (by rfl) (Root.Le.refl _) (hCon _) | exact AllC.ref (by rfl) ⟨rfl, ltb rfl⟩ | exact AllC.le (by rfl) (by first | with_reducible exact Root.Le.refl _ | with_reducible exact le_dead | (skip; done) | exact byLeq) (by exact byCon)) (trivial)))))))) rfl rfl (⟨_, rfl, fun i h => absurd h (Nat.not_lt_zero i)⟩) (fun i h => absurd h (Nat.not_lt_zero i))
  | false =>
    have hno : ¬ Grp N E x := fun h => by rw [inG_iff.2 h] at hg; cases hg
    have hE' : ∀ g ∈ E ++ [x], Np N g := fun g hm => by
      rcases List.mem_append.1 hm with hm | hm
      · exact hE g hm
      · simp only [List.mem_singleton] at hm; subst hm; exact hx
    have hlen : (E ++ [x]).length = E.length + 1 := by simp
    refine WP.cond (by rfl) (fun h => ?_) (fun h => WP.skip ?_)
    · refine WP.rs T false tok (by rfl) (by exact byObl) ?_
      have hG := groupOf_fn N hN (E ++ [x]) hE' (by omega)
      rw [hlen] at hG
      refine WP.region ?_
      refine WPL.run T false 2 tok (by rfl) (by exact byObl) ?_
      refine WPL.callE [9] (hG) (LeAll.cons (by rfl) (by first | with_reducible exact Root.Le.refl _ | with_reducible exact le_dead | (exact le_row (Nat.le_refl _) (fun j hj => ap_row1 rfl _ _ j hj)) | exact byLeq) (by exact byCon) (trivial)) (by rfl) (by rfl) (by exact byArgs) (by rfl) (by rfl) (by simp [Sc, sc_pl, sc_ds]) ?_
      rintro _ _ ⟨rfl, has', tab', rfl, hok'⟩
      refine ⟨by exact byAllc, .p 10 [] 0, rfl, sc_p rfl, ?_⟩
      refine WPL.mem (by rfl) ?_
      refine WPL.fin T false tok (by rfl) (by exact byObl) ?_
      rw [← hlen]
      exact Ends.newC [0, 1, 2, 3, 4, 5, 6, 9, 10] (⟨⟨fun _ => .un, rfl⟩, .inr ⟨hno, has', tab', rfl, hok'⟩⟩) (.inr rfl) (by rfl) (by exact byObl) (AllC.cons (by first | exact AllC.le (by rfl) (Root.Le.refl _) (hCon _) | exact AllC.ref (by rfl) ⟨rfl, ltb rfl⟩ | exact AllC.le (by rfl) (by first | with_reducible exact Root.Le.refl _ | with_reducible exact le_dead | (skip; done) | exact byLeq) (by exact byCon)) (AllC.cons (by first | exact AllC.le (by rfl) (Root.Le.refl _) (hCon _) | exact AllC.ref (by rfl) ⟨rfl, ltb rfl⟩ | exact AllC.le (by rfl) (by first | with_reducible exact Root.Le.refl _ | with_reducible exact le_dead | (skip; done) | exact byLeq) (by exact byCon)) (AllC.cons (by first | exact AllC.le (by rfl) (Root.Le.refl _) (hCon _) | exact AllC.ref (by rfl) ⟨rfl, ltb rfl⟩ | exact AllC.le (by rfl) (by first | with_reducible exact Root.Le.refl _ | with_reducible exact le_dead | (skip; done) | exact byLeq) (by exact byCon)) (AllC.cons (by first | exact AllC.le (by rfl) (Root.Le.refl _) (hCon _) | exact AllC.ref (by rfl) ⟨rfl, ltb rfl⟩ | exact AllC.le (by rfl) (by first | with_reducible exact Root.Le.refl _ | with_reducible exact le_dead | (skip; done) | exact byLeq) (by exact byCon)) (AllC.cons (by first | exact AllC.le (by rfl) (Root.Le.refl _) (hCon _) | exact AllC.ref (by rfl) ⟨rfl, ltb rfl⟩ | exact AllC.le (by rfl) (by first | with_reducible exact Root.Le.refl _ | with_reducible exact le_dead | (skip; done) | exact byLeq) (by exact byCon)) (AllC.cons (by first | exact AllC.le (by rfl) (Root.Le.refl _) (hCon _) | exact AllC.ref (by rfl) ⟨rfl, ltb rfl⟩ | exact AllC.le (by rfl) (by first | with_reducible exact Root.Le.refl _ | with_reducible exact le_dead | (skip; done) | exact byLeq) (by exact byCon)) (AllC.cons (by first | exact AllC.le (by rfl) (Root.Le.refl _) (hCon _) | exact AllC.ref (by rfl) ⟨rfl, ltb rfl⟩ | exact AllC.le (by rfl) (by first | with_reducible exact Root.Le.refl _ | with_reducible exact le_dead | (skip; done) | exact byLeq) (by exact byCon)) (AllC.cons (by first | exact AllC.le (by rfl) (Root.Le.refl _) (hCon _) | exact AllC.ref (by rfl) ⟨rfl, ltb rfl⟩ | exact AllC.le (by rfl) (by first | with_reducible exact Root.Le.refl _ | with_reducible exact le_dead | (skip; done) | exact byLeq) (by exact byCon)) (AllC.cons (by first | exact AllC.le (by rfl) (Root.Le.refl _) (hCon _) | exact AllC.ref (by rfl) ⟨rfl, ltb rfl⟩ | exact AllC.le (by rfl) (by first | with_reducible exact Root.Le.refl _ | with_reducible exact le_dead | (skip; done) | exact byLeq) (by exact byCon)) (trivial)))))))))) rfl rfl (⟨_, rfl, fun i h => absurd h (Nat.not_lt_zero i)⟩) (fun i h => absurd h (Nat.not_lt_zero i))
    · cases h

end Go.Proofs.Ytokhjhkicledmaa

/- Derived groups, the program's side. -/
namespace Go.Proofs.Ytokhjhkicledmaa
open Go.RowKit DM
set_option linter.unusedSimpArgs false
set_option linter.unusedVariables false
set_option maxRecDepth 100000
set_option maxHeartbeats 1000000

abbrev gd_ (L : List (Nat → Nat)) (i : Nat) : Nat → Nat := L.getD i fun _ => 0

/-- Where the closure finds its variables. -/
def tkF : Dat := .fn 84 3 (tup3 (.p 3 [] 0) (.p 2 [] 0) (.p 1 [] 0))

theorem three_sc : ∀ i, i < 3 → isScalar (tup3 (.p 3 [] 0) (.p 2 [] 0) (.p 1 [] 0) i) = true
  | 0, _ => rfl
  | 1, _ => rfl
  | 2, _ => rfl
  | _ + 3, h => by omega

structure DA (N : Nat) (L E : List (Nat → Nat)) (has : Nat → Nat → Bool) (tab : Nat → Nat → Nat → Nat) (i j : Nat) : Prop where
  di : DI N L E has tab
  old : ∀ a b, a < i → b < L.length → Grp N E (comF N (gd_ L a) (gd_ L b))
  now : ∀ b, b < j → Grp N E (comF N (gd_ L i) (gd_ L b))

/-- What has been led by the permutations: that of the first i. -/
structure DB (N : Nat) (L E : List (Nat → Nat)) (has : Nat → Nat → Bool) (tab : Nat → Nat → Nat → Nat) (i : Nat) : Prop where
  di : DI N L E has tab
  com : ∀ a b, a < L.length → b < L.length → Grp N E (comF N (gd_ L a) (gd_ L b))
  con : ∀ a b, a < i → b < L.length → Grp N E (conF N (gd_ E a) (gd_ L b))

/-- .. and that of number i of E by the first j. -/
structure DC (N : Nat) (L E : List (Nat → Nat)) (has : Nat → Nat → Bool) (i : Nat) (E' : List (Nat → Nat)) (has' : Nat → Nat → Bool) (tab' : Nat → Nat → Nat → Nat) (j : Nat) : Prop where
  di : DI N L E' has' tab'
  com : ∀ a b, a < L.length → b < L.length → Grp N E' (comF N (gd_ L a) (gd_ L b))
  con : ∀ a b, a < i → b < L.length → Grp N E' (conF N (gd_ E a) (gd_ L b))
  now : ∀ b, b < j → Grp N E' (conF N (gd_ E i) (gd_ L b))
  ext : ∃ T, E' = E ++ T
  mu : 300 * freeF has' N + E'.length ≤ 300 * freeF has N + E.length

theorem DB.start {N : Nat} {L E : List (Nat → Nat)} {has : Nat → Nat → Bool} {tab : Nat → Nat → Nat → Nat} {i : Nat} (h : DB N L E has tab i) : DC N L E has i E has tab 0 :=
  ⟨h.di, h.com, h.con, fun b hb => absurd hb (Nat.not_lt_zero _), ⟨[], by simp⟩, Nat.le_refl _⟩

theorem DC.done {N : Nat} {L E : List (Nat → Nat)} {has : Nat → Nat → Bool} {i : Nat} {E' : List (Nat → Nat)} {has' : Nat → Nat → Bool} {tab' : Nat → Nat → Nat → Nat} (hi : i < E.length) (h : DC N L E has i E' has' tab' L.length) : DB N L E' has' tab' (i + 1) ∧ E.length ≤ E'.length ∧ 300 * freeF has' N + E'.length ≤ 300 * freeF has N + E.length := by
  obtain ⟨T, e⟩ := h.ext
  refine ⟨⟨h.di, h.com, fun a b ha hb => ?_⟩, by rw [e]; simp, h.mu⟩
  have hg : gd_ E' a = gd_ E a := by rw [e]; exact getDp_lt _ _ (by omega)
  rw [hg]
  by_cases e2 : a = i
  · subst e2; exact h.now b hb
  · exact h.con a b (by omega) hb

theorem DB.done {N : Nat} (hN : N ≤ 16) {L E : List (Nat → Nat)} (hL : ∀ g ∈ L, Np N g) {has : Nat → Nat → Bool} {tab : Nat → Nat → Nat → Nat} (h : DB N L E has tab E.length) (g : Nat → Nat) : Grp N E g ↔ Der N L g := by
  refine der_iff hN hL h.di.der (fun p hp q hq => ?_) (fun x hx q hq => ?_) g
  · obtain ⟨a, ha, rfl⟩ := mem_getDf hp
    obtain ⟨b, hb, rfl⟩ := mem_getDf hq
    exact h.com a b ha hb
  · obtain ⟨a, ha, rfl⟩ := mem_getDf hx
    obtain ⟨b, hb, rfl⟩ := mem_getDf hq
    exact h.con a b ha hb

theorem derived_fn (N : Nat) (hN : N ≤ 16) (L : List (Nat → Nat)) (hL : ∀ g ∈ L, Np N g) (hl : L.length ≤ 1000) : FnS Try.prog 56 [.i .i64 (N : Int), .sl 0 0 L.length 16] [.row 27 L.length 16 (rowP L)] fun r m' => ∃ E, r = .sl 1 0 E.length 16 ∧ m' = [.row 27 L.length 16 (rowP L), .row 27 E.length 16 (rowP E)] ∧ (∀ g ∈ E, Np N g) ∧ E.length ≤ 256 ∧ ∀ g, Grp N E g ↔ Der N L g := by
  refine FnS.intoE T tok Try.func56 (by rfl) rfl rfl rfl (by simp) ?_
  refine WP.rs T false tok (by rfl) (by exact byObl) ?_
  refine WP.rs T false tok (by rfl) (by exact byObl) ?_
  refine WP.rw ?_
  refine WPL.run T false 1 tok (by rfl) (by exact byObl) ?_
  refine WPL.callE [] (groupNil_fn N hN) (trivial) (by rfl) (by rfl) (by exact byArgs) (by rfl) (by rfl) (by simp [Sc, sc_pl, sc_ds]) ?_
  rintro _ _ ⟨rfl, has, tab, rfl, hok⟩
  refine ⟨by exact byAllc, .p 4 [] 0, rfl, sc_p rfl, ?_⟩
  refine WPL.mem (by rfl) ?_
  refine WPL.fin T false tok (by rfl) (by exact byObl) ?_
  refine WP.rw ?_
  refine WPL.op (by rfl) (by rfl) (QOK.op (ok_makeFunc rfl rfl rfl rfl)) ?_
  refine WPL.fin T false tok (by rfl) (by exact byObl) ?_
  have hdi := DI.start hN (L := L) hok
  refine WP.ghost (Ghost.cutC (Nat.le_refl _) (tauOf [0, 1, 3, 5, 4, 2]) [(1, .sl 0 0 L.length 16), (2, .p 1 [] 0), (5, .p 2 [] 0), (7, tkF)] [.row 27 L.length 16 (rowP L), .var (.i .i64 (N : Int)), .var (.sl 5 0 0 16), .var (.p 4 [] 0), .var (grD N has tab), .row 27 0 16 (rowP [])] (TakenC.of [0, 1, 3, 5, 4, 2] (AllC.cons (by first | exact AllC.le (by rfl) (Root.Le.refl _) (hCon _) | exact AllC.ref (by rfl) ⟨rfl, ltb rfl⟩ | exact AllC.le (by rfl) (by first | with_reducible exact Root.Le.refl _ | with_reducible exact le_dead | (exact le_row (Nat.le_refl _) (fun j hj => absurd hj (Nat.not_lt_zero _))) | exact byLeq) (by exact byCon)) (AllC.cons (by first | exact AllC.le (by rfl) (Root.Le.refl _) (hCon _) | exact AllC.ref (by rfl) ⟨rfl, ltb rfl⟩ | exact AllC.le (by rfl) (by first | with_reducible exact Root.Le.refl _ | with_reducible exact le_dead | (exact le_row (Nat.le_refl _) (fun j hj => absurd hj (Nat.not_lt_zero _))) | exact byLeq) (by exact byCon)) (AllC.cons (by first | exact AllC.le (by rfl) (Root.Le.refl _) (hCon _) | exact AllC.ref (by rfl) ⟨rfl, ltb rfl⟩ | exact AllC.le (by rfl) (by first | with_reducible exact Root.Le.refl _ | with_reducible exact le_dead | (exact le_row (Nat.le_refl _) (fun j hj => absurd hj (Nat.not_lt_zero _))) | exact byLeq) (by exact byCon)) (AllC.cons (by first | exact AllC.le (by rfl) (Root.Le.refl _) (hCon _) | exact AllC.ref (by rfl) ⟨rfl, ltb rfl⟩ | exact AllC.le (by rfl) (by first | with_reducible exact Root.Le.refl _ | with_reducible exact le_dead | (exact le_row (Nat.le_refl _) (fun j hj => absurd hj (Nat.not_lt_zero _))) | exact byLeq) (by exact byCon)) (AllC.cons (by first | exact AllC.le (by rfl) (Root.Le.refl _) (hCon _) | exact AllC.ref (by rfl) ⟨rfl, ltb rfl⟩ | exact AllC.le (by rfl) (by first | with_reducible exact Root.Le.refl _ | with_reducible exact le_dead | (exact le_row (Nat.le_refl _) (fun j hj => absurd hj (Nat.not_lt_zero _))) | exact byLeq) (by exact byCon)) (AllC.cons (by first | exact AllC.le (by rfl) (Root.Le.refl _) (hCon _) | exact AllC.ref (by rfl) ⟨rfl, ltb rfl⟩ | exact AllC.le (by rfl) (by first | with_reducible exact Root.Le.refl _ | with_reducible exact le_dead | (exact le_row (Nat.le_refl _) (fun j hj => absurd hj (Nat.not_lt_zero _))) | exact byLeq) (by exact byCon)) (trivial))))))) rfl rfl) (by exact bySlotsc)) ?_
  refine WP.seq ?_
  refine WP.rs T false tok (by rfl) (by exact byObl) ?_
  refine WP.block ?_
  refine WP.loopH (⟨fun z : Nat × List (Nat → Nat) × (Nat → Nat → Bool) × (Nat → Nat → Nat → Nat) => z.1 ≤ L.length ∧ DA N L z.2.1 z.2.2.1 z.2.2.2 z.1 0, fun z => [(1, .sl 0 0 L.length 16), (2, .p 1 [] 0), (5, .p 2 [] 0), (7, tkF), (19, .sl 0 0 L.length 16), (20, .i .i64 (L.length : Int)), (21, .i .i64 (z.1 : Int))], fun z => [.row 27 L.length 16 (rowP L), .var (.i .i64 (N : Int)), .var (.sl 5 0 z.2.1.length 16), .var (.p 4 [] 0), .var (grD N z.2.2.1 z.2.2.2), .row 27 z.2.1.length 16 (rowP z.2.1)], fun z => L.length - z.1⟩) ((0, [], has, tab)) (⟨Nat.zero_le _, hdi, fun a b h => absurd h (Nat.not_lt_zero _), fun b h => absurd h (Nat.not_lt_zero _)⟩) (Ghost.cutC (Nat.le_refl _) (tauOf [0, 1, 2, 3, 4, 5]) _ _ (TakenC.of [0, 1, 2, 3, 4, 5] (AllC.cons (by first | exact AllC.le (by rfl) (Root.Le.refl _) (hCon _) | exact AllC.ref (by rfl) ⟨rfl, ltb rfl⟩ | exact AllC.le (by rfl) (by first | with_reducible exact Root.Le.refl _ | with_reducible exact le_dead | (skip; done) | exact byLeq) (by exact byCon)) (AllC.cons (by first | exact AllC.le (by rfl) (Root.Le.refl _) (hCon _) | exact AllC.ref (by rfl) ⟨rfl, ltb rfl⟩ | exact AllC.le (by rfl) (by first | with_reducible exact Root.Le.refl _ | with_reducible exact le_dead | (skip; done) | exact byLeq) (by exact byCon)) (AllC.cons (by first | exact AllC.le (by rfl) (Root.Le.refl _) (hCon _) | exact AllC.ref (by rfl) ⟨rfl, ltb rfl⟩ | exact AllC.le (by rfl) (by first | with_reducible exact Root.Le.refl _ | with_reducible exact le_dead | (skip; done) | exact byLeq) (by exact byCon)) (AllC.cons (by first | exact AllC.le (by rfl) (Root.Le.refl _) (hCon _) | exact AllC.ref (by rfl) ⟨rfl, ltb rfl⟩ | exact AllC.le (by rfl) (by first | with_reducible exact Root.Le.refl _ | with_reducible exact le_dead | (skip; done) | exact byLeq) (by exact byCon)) (AllC.cons (by first | exact AllC.le (by rfl) (Root.Le.refl _) (hCon _) | exact AllC.ref (by rfl) ⟨rfl, ltb rfl⟩ | exact AllC.le (by rfl) (by first | with_reducible exact Root.Le.refl _ | with_reducible exact le_dead | (skip; done) | exact byLeq) (by exact byCon)) (AllC.cons (by first | exact AllC.le (by rfl) (Root.Le.refl _) (hCon _) | exact AllC.ref (by rfl) ⟨rfl, ltb rfl⟩ | exact AllC.le (by rfl) (by first | with_reducible exact Root.Le.refl _ | with_reducible exact le_dead | (skip; done) | exact byLeq) (by exact byCon)) (trivial))))))) rfl rfl) (by exact bySlotsc)) ?_
  clear hdi hok
  clear has tab
  rintro ⟨i, E, has, tab⟩ ⟨hi, hDA⟩
  dsimp only at hi hDA
  dsimp only [Hd.at]
  refine WP.rs T false tok (by rfl) (by exact byObl) ?_
  refine WP.seq ?_
  refine WP.cond (by rfl) (fun hc => WP.skip ?_) (fun hc => WP.exit ?_)
  · have hi : i < L.length := by have := of_decide_eq_true hc; omega
    clear hc
    have hp : Np N (gd_ L i) := hL _ (getDf_mem hi)
    refine WP.seq (WP.block ?_)
    refine WP.rs T false tok (by rfl) (by exact byObl) ?_
    refine WP.rs T false tok (by rfl) (by exact byObl) ?_
    refine WP.block ?_
    refine WP.loopH (⟨fun z : Nat × List (Nat → Nat) × (Nat → Nat → Bool) × (Nat → Nat → Nat → Nat) => z.1 ≤ L.length ∧ DA N L z.2.1 z.2.2.1 z.2.2.2 i z.1, fun z => [(1, .sl 0 0 L.length 16), (2, .p 1 [] 0), (5, .p 2 [] 0), (7, tkF), (19, .sl 0 0 L.length 16), (20, .i .i64 (L.length : Int)), (9, .p 6 [] 0), (21, .i .i64 (i : Int)), (25, .sl 0 0 L.length 16), (26, .i .i64 (L.length : Int)), (27, .i .i64 (z.1 : Int))], fun z => [.row 27 L.length 16 (rowP L), .var (.i .i64 (N : Int)), .var (.sl 5 0 z.2.1.length 16), .var (.p 4 [] 0), .var (grD N z.2.2.1 z.2.2.2), .row 27 z.2.1.length 16 (rowP z.2.1), .var (pl (gd_ L i))], fun z => L.length - z.1⟩) ((0, E, has, tab)) (⟨Nat.zero_le _, hDA⟩) (Ghost.cutC (Nat.le_refl _) (tauOf [0, 1, 2, 3, 4, 5, 6]) _ _ (TakenC.of [0, 1, 2, 3, 4, 5, 6] (AllC.cons (by first | exact AllC.le (by rfl) (Root.Le.refl _) (hCon _) | exact AllC.ref (by rfl) ⟨rfl, ltb rfl⟩ | exact AllC.le (by rfl) (by first | with_reducible exact Root.Le.refl _ | with_reducible exact le_dead | (skip; done) | exact byLeq) (by exact byCon)) (AllC.cons (by first | exact AllC.le (by rfl) (Root.Le.refl _) (hCon _) | exact AllC.ref (by rfl) ⟨rfl, ltb rfl⟩ | exact AllC.le (by rfl) (by first | with_reducible exact Root.Le.refl _ | with_reducible exact le_dead | (skip; done) | exact byLeq) (by exact byCon)) (AllC.cons (by first | exact AllC.le (by rfl) (Root.Le.refl _) (hCon _) | exact AllC.ref (by rfl) ⟨rfl, ltb rfl⟩ | exact AllC.le (by rfl) (by first | with_reducible exact Root.Le.refl _ | with_reducible exact le_dead | (skip; done) | exact byLeq) (by exact byCon)) (AllC.cons (by first | exact AllC.le (by rfl) (Root.Le.refl _) (hCon _) | exact AllC.ref (by rfl) ⟨rfl, ltb rfl⟩ | exact AllC.le (by rfl) (by first | with_reducible exact Root.Le.refl _ | with_reducible exact le_dead | (skip; done) | exact byLeq) (by exact byCon)) (AllC.cons (by first | exact AllC.le (by rfl) (Root.Le.refl _) (hCon _) | exact AllC.ref (by rfl) ⟨rfl, ltb rfl⟩ | exact AllC.le (by rfl) (by first | with_reducible exact Root.Le.refl _ | with_reducible exact le_dead | (skip; done) | exact byLeq) (by exact byCon)) (AllC.cons (by first | exact AllC.le (by rfl) (Root.Le.refl _) (hCon _) | exact AllC.ref (by rfl) ⟨rfl, ltb rfl⟩ | exact AllC.le (by rfl) (by first | with_reducible exact Root.Le.refl _ | with_reducible exact le_dead | (skip; done) | exact byLeq) (by exact byCon)) (AllC.cons (by first | exact AllC.le (by rfl) (Root.Le.refl _) (hCon _) | exact AllC.ref (by rfl) ⟨rfl, ltb rfl⟩ | exact AllC.le (by rfl) (by first | with_reducible exact Root.Le.refl _ | with_reducible exact le_dead | (skip; done) | exact byLeq) (by exact byCon)) (trivial)))))))) rfl rfl) (by exact bySlotsc)) ?_
    rintro ⟨j, E', has', tab'⟩ ⟨hj, hDA'⟩
    dsimp only at hj hDA'
    dsimp only [Hd.at]
    refine WP.rs T false tok (by rfl) (by exact byObl) ?_
    refine WP.seq ?_
    refine WP.cond (by rfl) (fun hc => WP.skip ?_) (fun hc => WP.exit ?_)
    · have hj : j < L.length := by have := of_decide_eq_true hc; omega
      clear hc
      have hq : Np N (gd_ L j) := hL _ (getDf_mem hj)
      have ip := inv_np hN hp
      have iq := inv_np hN hq
      have hxc := com_np hN hp hq
      have hlen := hDA'.di.len
      have hder : Der N L (comF N (gd_ L i) (gd_ L j)) := .com (getDf_mem hi) (getDf_mem hj)
      have hT := take_fn N hN L E' (hDA'.di.np hN hL) (by omega) hDA'.di.ok (gd_ L i) (comF N (gd_ L i) (gd_ L j)) hxc
      unfold tkM at hT
      refine WP.seq (WP.block ?_)
      refine WP.rs T false tok (by rfl) (by exact byObl) ?_
      refine WP.da (by kernel_rfl) 15 (by kernel_rfl) ?_
      refine WA.takes T false tok [0, 1, 2, 3, 5, 6, 8, 9, 11, 13] (f' := 6) (by kernel_rfl) (by rfl) (by rfl) (by rfl) (by exact byObl) (by rfl) (by rfl) ?_
      refine WA.all [4] (by kernel_rfl) (by simp) ?_; intro i' hi'; simp only [List.mem_cons, List.not_mem_nil, or_false] at hi'
      subst hi'
      refine ⟨_, _, _, rfl, by rfl, by rfl, MK.callP (then_fn (gd_ L i) (gd_ L j) N hN hp.perm.lt) (by rfl) (by simp [Sc, sc_pl, sc_ds, pl_ne, ds_ne]), ?_⟩
      refine WA.all [7] (by kernel_rfl) (by simp) ?_; intro i' hi'; simp only [List.mem_cons, List.not_mem_nil, or_false] at hi'
      subst hi'
      refine ⟨_, _, _, rfl, by rfl, by rfl, MK.callP (back_fn (gd_ L i) N hN hp.perm.lt) (by rfl) (by simp [Sc, sc_pl, sc_ds, pl_ne, ds_ne]), ?_⟩
      refine WA.all [10] (by kernel_rfl) (by simp) ?_; intro i' hi'; simp only [List.mem_cons, List.not_mem_nil, or_false] at hi'
      subst hi'
      refine ⟨_, _, _, rfl, by rfl, by rfl, MK.callP (back_fn (gd_ L j) N hN hq.perm.lt) (by rfl) (by simp [Sc, sc_pl, sc_ds, pl_ne, ds_ne]), ?_⟩
      refine WA.all [12] (by kernel_rfl) (by simp) ?_; intro i' hi'; simp only [List.mem_cons, List.not_mem_nil, or_false] at hi'
      subst hi'
      refine ⟨_, _, _, rfl, by rfl, by rfl, MK.callP (then_fn (backTo (gd_ L i) N) (backTo (gd_ L j) N) N hN ip.perm.lt) (by rfl) (by simp [Sc, sc_pl, sc_ds, pl_ne, ds_ne]), ?_⟩
      refine WA.all [14] (by kernel_rfl) (by simp) ?_; intro i' hi'; simp only [List.mem_cons, List.not_mem_nil, or_false] at hi'
      subst hi'
      refine ⟨_, _, _, rfl, by rfl, by rfl, MK.callP (then_fn (mulF N (gd_ L i) (gd_ L j)) (mulF N (backTo (gd_ L i) N) (backTo (gd_ L j) N)) N hN (mul_np hp hq).perm.lt) (by rfl) (by simp [Sc, sc_pl, sc_ds, pl_ne, ds_ne]), ?_⟩
      refine WA.tail (by rfl) (by rfl) (by kernel_rfl) ?_
      refine WPL.ghost (Ghost.cutC (Nat.le_refl _) (tauOf [0, 1, 2, 3, 4, 5, 6]) [(1, .sl 0 0 L.length 16), (2, .p 1 [] 0), (5, .p 2 [] 0), (7, tkF), (19, .sl 0 0 L.length 16), (20, .i .i64 (L.length : Int)), (9, .p 6 [] 0), (21, .i .i64 (i : Int)), (25, .sl 0 0 L.length 16), (26, .i .i64 (L.length : Int)), (27, .i .i64 (j : Int)), (31, tkF), (45, pl (comF N (gd_ L i) (gd_ L j)))] [.row 27 L.length 16 (rowP L), .var (.i .i64 (N : Int)), .var (.sl 5 0 E'.length 16), .var (.p 4 [] 0), .var (grD N has' tab'), .row 27 E'.length 16 (rowP E'), .var (pl (gd_ L i))] (TakenC.of [0, 1, 2, 3, 4, 5, 6] (AllC.cons (by first | exact AllC.le (by rfl) (Root.Le.refl _) (hCon _) | exact AllC.ref (by rfl) ⟨rfl, ltb rfl⟩ | exact AllC.le (by rfl) (by first | with_reducible exact Root.Le.refl _ | with_reducible exact le_dead | (skip; done) | exact byLeq) (by exact byCon)) (AllC.cons (by first | exact AllC.le (by rfl) (Root.Le.refl _) (hCon _) | exact AllC.ref (by rfl) ⟨rfl, ltb rfl⟩ | exact AllC.le (by rfl) (by first | with_reducible exact Root.Le.refl _ | with_reducible exact le_dead | (skip; done) | exact byLeq) (by exact byCon)) (AllC.cons (by first | exact AllC.le (by rfl) (Root.Le.refl _) (hCon _) | exact AllC.ref (by rfl) ⟨rfl, ltb rfl⟩ | exact AllC.le (by rfl) (by first | with_reducible exact Root.Le.refl _ | with_reducible exact le_dead | (skip; done) | exact byLeq) (by exact byCon)) (AllC.cons (by first | exact AllC.le (by rfl) (Root.Le.refl _) (hCon _) | exact AllC.ref (by rfl) ⟨rfl, ltb rfl⟩ | exact AllC.le (by rfl) (by first | with_reducible exact Root.Le.refl _ | with_reducible exact le_dead | (skip; done) | exact byLeq) (by exact byCon)) (AllC.cons (by first | exact AllC.le (by rfl) (Root.Le.refl _) (hCon _) | exact AllC.ref (by rfl) ⟨rfl, ltb rfl⟩ | exact AllC.le (by rfl) (by first | with_reducible exact Root.Le.refl _ | with_reducible exact le_dead | (skip; done) | exact byLeq) (by exact byCon)) (AllC.cons (by first | exact AllC.le (by rfl) (Root.Le.refl _) (hCon _) | exact AllC.ref (by rfl) ⟨rfl, ltb rfl⟩ | exact AllC.le (by rfl) (by first | with_reducible exact Root.Le.refl _ | with_reducible exact le_dead | (skip; done) | exact byLeq) (by exact byCon)) (AllC.cons (by first | exact AllC.le (by rfl) (Root.Le.refl _) (hCon _) | exact AllC.ref (by rfl) ⟨rfl, ltb rfl⟩ | exact AllC.le (by rfl) (by first | with_reducible exact Root.Le.refl _ | with_reducible exact le_dead | (skip; done) | exact byLeq) (by exact byCon)) (trivial)))))))) rfl rfl) (by exact bySlotsc)) ?_
      refine WPL.callI [pl (comF N (gd_ L i) (gd_ L j))] hT (by rfl) (by rfl) (fun y hy => by (simp only [List.mem_singleton] at hy; subst hy; exact pl_ne _)) three_sc (by rfl) (by rfl) ?_
      rintro r m1 ⟨⟨f, rfl⟩, h⟩ _
      rcases h with ⟨hin, rfl⟩ | ⟨hno, has2, tab2, rfl, hok2⟩
      · refine WPL.nil (noPan ?_)
        refine WP.run T false tok (by rfl) (by exact byObl) ?_
        refine Again.next ((j + 1, E', has', tab')) (Ghost.cutC (Nat.le_refl _) (tauOf [0, 1, 2, 3, 4, 5, 6]) _ _ (TakenC.of [0, 1, 2, 3, 4, 5, 6] (AllC.cons (by first | exact AllC.le (by rfl) (Root.Le.refl _) (hCon _) | exact AllC.ref (by rfl) ⟨rfl, ltb rfl⟩ | exact AllC.le (by rfl) (by first | with_reducible exact Root.Le.refl _ | with_reducible exact le_dead | (skip; done) | exact byLeq) (by exact byCon)) (AllC.cons (by first | exact AllC.le (by rfl) (Root.Le.refl _) (hCon _) | exact AllC.ref (by rfl) ⟨rfl, ltb rfl⟩ | exact AllC.le (by rfl) (by first | with_reducible exact Root.Le.refl _ | with_reducible exact le_dead | (skip; done) | exact byLeq) (by exact byCon)) (AllC.cons (by first | exact AllC.le (by rfl) (Root.Le.refl _) (hCon _) | exact AllC.ref (by rfl) ⟨rfl, ltb rfl⟩ | exact AllC.le (by rfl) (by first | with_reducible exact Root.Le.refl _ | with_reducible exact le_dead | (skip; done) | exact byLeq) (by exact byCon)) (AllC.cons (by first | exact AllC.le (by rfl) (Root.Le.refl _) (hCon _) | exact AllC.ref (by rfl) ⟨rfl, ltb rfl⟩ | exact AllC.le (by rfl) (by first | with_reducible exact Root.Le.refl _ | with_reducible exact le_dead | (skip; done) | exact byLeq) (by exact byCon)) (AllC.cons (by first | exact AllC.le (by rfl) (Root.Le.refl _) (hCon _) | exact AllC.ref (by rfl) ⟨rfl, ltb rfl⟩ | exact AllC.le (by rfl) (by first | with_reducible exact Root.Le.refl _ | with_reducible exact le_dead | (skip; done) | exact byLeq) (by exact byCon)) (AllC.cons (by first | exact AllC.le (by rfl) (Root.Le.refl _) (hCon _) | exact AllC.ref (by rfl) ⟨rfl, ltb rfl⟩ | exact AllC.le (by rfl) (by first | with_reducible exact Root.Le.refl _ | with_reducible exact le_dead | (skip; done) | exact byLeq) (by exact byCon)) (AllC.cons (by first | exact AllC.le (by rfl) (Root.Le.refl _) (hCon _) | exact AllC.ref (by rfl) ⟨rfl, ltb rfl⟩ | exact AllC.le (by rfl) (by first | with_reducible exact Root.Le.refl _ | with_reducible exact le_dead | (skip; done) | exact byLeq) (by exact byCon)) (trivial)))))))) rfl rfl) (by exact bySlotsc)) (⟨hj, hDA'.di, hDA'.old, fun b hb => (by
          by_cases e : b = j
          · subst e; exact hin
          · exact hDA'.now b (by omega))⟩) (by dsimp only; omega)
      · obtain ⟨hdi2, hfr⟩ := hDA'.di.grow hN hL hder hno hok2
        have mono : ∀ g, Grp N E' g → Grp N (E' ++ [comF N (gd_ L i) (gd_ L j)]) g := fun g hg => hg.mono fun g hg => by simp [hg]
        unfold tkN
        refine WPL.nil (noPan ?_)
        refine WP.run T false tok (by rfl) (by exact byObl) ?_
        refine Again.next ((j + 1, E' ++ [comF N (gd_ L i) (gd_ L j)], has2, tab2)) (Ghost.cutC (Nat.le_refl _) (tauOf [0, 1, 2, 3, 8, 7, 6]) _ _ (TakenC.of [0, 1, 2, 3, 8, 7, 6] (AllC.cons (by first | exact AllC.le (by rfl) (Root.Le.refl _) (hCon _) | exact AllC.ref (by rfl) ⟨rfl, ltb rfl⟩ | exact AllC.le (by rfl) (by first | with_reducible exact Root.Le.refl _ | with_reducible exact le_dead | (skip; done) | exact byLeq) (by exact byCon)) (AllC.cons (by first | exact AllC.le (by rfl) (Root.Le.refl _) (hCon _) | exact AllC.ref (by rfl) ⟨rfl, ltb rfl⟩ | exact AllC.le (by rfl) (by first | with_reducible exact Root.Le.refl _ | with_reducible exact le_dead | (skip; done) | exact byLeq) (by exact byCon)) (AllC.cons (by first | exact AllC.le (by rfl) (Root.Le.refl _) (hCon _) | exact AllC.ref (by rfl) ⟨rfl, ltb rfl⟩ | exact AllC.le (by rfl) (by first | with_reducible exact Root.Le.refl _ | with_reducible exact le_dead | (skip; done) | exact byLeq) (by exact byCon)) (AllC.cons (by first | exact AllC.le (by rfl) (Root.Le.refl _) (hCon _) | exact AllC.ref (by rfl) ⟨rfl, ltb rfl⟩ | exact AllC.le (by rfl) (by first | with_reducible exact Root.Le.refl _ | with_reducible exact le_dead | (skip; done) | exact byLeq) (by exact byCon)) (AllC.cons (by first | exact AllC.le (by rfl) (Root.Le.refl _) (hCon _) | exact AllC.ref (by rfl) ⟨rfl, ltb rfl⟩ | exact AllC.le (by rfl) (by first | with_reducible exact Root.Le.refl _ | with_reducible exact le_dead | (skip; done) | exact byLeq) (by exact byCon)) (AllC.cons (by first | exact AllC.le (by rfl) (Root.Le.refl _) (hCon _) | exact AllC.ref (by rfl) ⟨rfl, ltb rfl⟩ | exact AllC.le (by rfl) (by first | with_reducible exact Root.Le.refl _ | with_reducible exact le_dead | (skip; done) | exact byLeq) (by exact byCon)) (AllC.cons (by first | exact AllC.le (by rfl) (Root.Le.refl _) (hCon _) | exact AllC.ref (by rfl) ⟨rfl, ltb rfl⟩ | exact AllC.le (by rfl) (by first | with_reducible exact Root.Le.refl _ | with_reducible exact le_dead | (skip; done) | exact byLeq) (by exact byCon)) (trivial)))))))) rfl rfl) (by exact bySlotsc)) (⟨hj, hdi2, fun a b ha hb => mono _ (hDA'.old a b ha hb), fun b hb => (by
          by_cases e : b = j
          · subst e; exact Grp.gen (hdi2.np hN hL) (by simp)
          · exact mono _ (hDA'.now b (by omega)))⟩) (by dsimp only; omega)
    · have hj : j = L.length := by have := of_decide_eq_false hc; omega
      subst hj
      refine WP.run T false tok (by rfl) (by exact byObl) ?_
      refine Again.next ((i + 1, E', has', tab')) (Ghost.cutC (Nat.le_refl _) (tauOf [0, 1, 2, 3, 4, 5]) _ _ (TakenC.of [0, 1, 2, 3, 4, 5] (AllC.cons (by first | exact AllC.le (by rfl) (Root.Le.refl _) (hCon _) | exact AllC.ref (by rfl) ⟨rfl, ltb rfl⟩ | exact AllC.le (by rfl) (by first | with_reducible exact Root.Le.refl _ | with_reducible exact le_dead | (skip; done) | exact byLeq) (by exact byCon)) (AllC.cons (by first | exact AllC.le (by rfl) (Root.Le.refl _) (hCon _) | exact AllC.ref (by rfl) ⟨rfl, ltb rfl⟩ | exact AllC.le (by rfl) (by first | with_reducible exact Root.Le.refl _ | with_reducible exact le_dead | (skip; done) | exact byLeq) (by exact byCon)) (AllC.cons (by first | exact AllC.le (by rfl) (Root.Le.refl _) (hCon _) | exact AllC.ref (by rfl) ⟨rfl, ltb rfl⟩ | exact AllC.le (by rfl) (by first | with_reducible exact Root.Le.refl _ | with_reducible exact le_dead | (skip; done) | exact byLeq) (by exact byCon)) (AllC.cons (by first | exact AllC.le (by rfl) (Root.Le.refl _) (hCon _) | exact AllC.ref (by rfl) ⟨rfl, ltb rfl⟩ | exact AllC.le (by rfl) (by first | with_reducible exact Root.Le.refl _ | with_reducible exact le_dead | (skip; done) | exact byLeq) (by exact byCon)) (AllC.cons (by first | exact AllC.le (by rfl) (Root.Le.refl _) (hCon _) | exact AllC.ref (by rfl) ⟨rfl, ltb rfl⟩ | exact AllC.le (by rfl) (by first | with_reducible exact Root.Le.refl _ | with_reducible exact le_dead | (skip; done) | exact byLeq) (by exact byCon)) (AllC.cons (by first | exact AllC.le (by rfl) (Root.Le.refl _) (hCon _) | exact AllC.ref (by rfl) ⟨rfl, ltb rfl⟩ | exact AllC.le (by rfl) (by first | with_reducible exact Root.Le.refl _ | with_reducible exact le_dead | (skip; done) | exact byLeq) (by exact byCon)) (trivial))))))) rfl rfl) (by exact bySlotsc)) (⟨hi, hDA'.di, fun a b ha hb => (by
        by_cases e : a = i
        · subst e; exact hDA'.now b hb
        · exact hDA'.old a b (by omega) hb), fun b h => absurd h (Nat.not_lt_zero _)⟩) (by dsimp only; omega)
  · have hi : i = L.length := by have := of_decide_eq_false hc; omega
    subst hi
    clear hc
    have hB : DB N L E has tab 0 := ⟨hDA.di, fun a b ha hb => hDA.old a b ha hb, fun a b ha => absurd ha (Nat.not_lt_zero _)⟩
    refine WP.seq ?_
    refine WP.rs T false tok (by rfl) (by exact byObl) ?_
    refine WP.block ?_
    refine WP.loopH (⟨fun z : Nat × List (Nat → Nat) × (Nat → Nat → Bool) × (Nat → Nat → Nat → Nat) => z.1 ≤ z.2.1.length ∧ DB N L z.2.1 z.2.2.1 z.2.2.2 z.1, fun z => [(1, .sl 0 0 L.length 16), (2, .p 1 [] 0), (5, .p 2 [] 0), (7, tkF), (12, .i .i64 (z.1 : Int))], fun z => [.row 27 L.length 16 (rowP L), .var (.i .i64 (N : Int)), .var (.sl 5 0 z.2.1.length 16), .var (.p 4 [] 0), .var (grD N z.2.2.1 z.2.2.2), .row 27 z.2.1.length 16 (rowP z.2.1)], fun z => 300 * freeF z.2.2.1 N + z.2.1.length - z.1⟩) ((0, E, has, tab)) (⟨Nat.zero_le _, hB⟩) (Ghost.cutC (Nat.le_refl _) (tauOf [0, 1, 2, 3, 4, 5]) _ _ (TakenC.of [0, 1, 2, 3, 4, 5] (AllC.cons (by first | exact AllC.le (by rfl) (Root.Le.refl _) (hCon _) | exact AllC.ref (by rfl) ⟨rfl, ltb rfl⟩ | exact AllC.le (by rfl) (by first | with_reducible exact Root.Le.refl _ | with_reducible exact le_dead | (skip; done) | exact byLeq) (by exact byCon)) (AllC.cons (by first | exact AllC.le (by rfl) (Root.Le.refl _) (hCon _) | exact AllC.ref (by rfl) ⟨rfl, ltb rfl⟩ | exact AllC.le (by rfl) (by first | with_reducible exact Root.Le.refl _ | with_reducible exact le_dead | (skip; done) | exact byLeq) (by exact byCon)) (AllC.cons (by first | exact AllC.le (by rfl) (Root.Le.refl _) (hCon _) | exact AllC.ref (by rfl) ⟨rfl, ltb rfl⟩ | exact AllC.le (by rfl) (by first | with_reducible exact Root.Le.refl _ | with_reducible exact le_dead | (skip; done) | exact byLeq) (by exact byCon)) (AllC.cons (by first | exact AllC.le (by rfl) (Root.Le.refl _) (hCon _) | exact AllC.ref (by rfl) ⟨rfl, ltb rfl⟩ | exact AllC.le (by rfl) (by first | with_reducible exact Root.Le.refl _ | with_reducible exact le_dead | (skip; done) | exact byLeq) (by exact byCon)) (AllC.cons (by first | exact AllC.le (by rfl) (Root.Le.refl _) (hCon _) | exact AllC.ref (by rfl) ⟨rfl, ltb rfl⟩ | exact AllC.le (by rfl) (by first | with_reducible exact Root.Le.refl _ | with_reducible exact le_dead | (skip; done) | exact byLeq) (by exact byCon)) (AllC.cons (by first | exact AllC.le (by rfl) (Root.Le.refl _) (hCon _) | exact AllC.ref (by rfl) ⟨rfl, ltb rfl⟩ | exact AllC.le (by rfl) (by first | with_reducible exact Root.Le.refl _ | with_reducible exact le_dead | (skip; done) | exact byLeq) (by exact byCon)) (trivial))))))) rfl rfl) (by exact bySlotsc)) ?_
    clear hDA hB
    clear E has tab
    rintro ⟨i, E, has, tab⟩ ⟨hi, hB⟩
    dsimp only at hi hB
    dsimp only [Hd.at]
    have hlen := hB.di.len
    refine WP.seq ?_
    refine WP.rs T false tok (by rfl) (by exact byObl) ?_
    refine WP.cond (by rfl) (fun hc => WP.skip ?_) (fun hc => WP.exit ?_)
    · have hi : i < E.length := by have := of_decide_eq_true hc; omega
      clear hc
      have hxE : gd_ E i ∈ E := getDf_mem hi
      have hx : Np N (gd_ E i) := hB.di.np hN hL _ hxE
      refine WP.seq (WP.block ?_)
      refine WP.rs T false tok (by rfl) (by exact byObl) ?_
      refine WP.block ?_
      refine WP.loopH (⟨fun z : Nat × List (Nat → Nat) × (Nat → Nat → Bool) × (Nat → Nat → Nat → Nat) => z.1 ≤ L.length ∧ DC N L E has i z.2.1 z.2.2.1 z.2.2.2 z.1, fun z => [(1, .sl 0 0 L.length 16), (2, .p 1 [] 0), (5, .p 2 [] 0), (7, tkF), (12, .i .i64 (i : Int)), (55, .sl 0 0 L.length 16), (56, .i .i64 (L.length : Int)), (57, .i .i64 (z.1 : Int))], fun z => [.row 27 L.length 16 (rowP L), .var (.i .i64 (N : Int)), .var (.sl 5 0 z.2.1.length 16), .var (.p 4 [] 0), .var (grD N z.2.2.1 z.2.2.2), .row 27 z.2.1.length 16 (rowP z.2.1)], fun z => L.length - z.1⟩) ((0, E, has, tab)) (⟨Nat.zero_le _, hB.start⟩) (Ghost.cutC (Nat.le_refl _) (tauOf [0, 1, 2, 3, 4, 5]) _ _ (TakenC.of [0, 1, 2, 3, 4, 5] (AllC.cons (by first | exact AllC.le (by rfl) (Root.Le.refl _) (hCon _) | exact AllC.ref (by rfl) ⟨rfl, ltb rfl⟩ | exact AllC.le (by rfl) (by first | with_reducible exact Root.Le.refl _ | with_reducible exact le_dead | (skip; done) | exact byLeq) (by exact byCon)) (AllC.cons (by first | exact AllC.le (by rfl) (Root.Le.refl _) (hCon _) | exact AllC.ref (by rfl) ⟨rfl, ltb rfl⟩ | exact AllC.le (by rfl) (by first | with_reducible exact Root.Le.refl _ | with_reducible exact le_dead | (skip; done) | exact byLeq) (by exact byCon)) (AllC.cons (by first | exact AllC.le (by rfl) (Root.Le.refl _) (hCon _) | exact AllC.ref (by rfl) ⟨rfl, ltb rfl⟩ | exact AllC.le (by rfl) (by first | with_reducible exact Root.Le.refl _ | with_reducible exact le_dead | (skip; done) | exact byLeq) (by exact byCon)) (AllC.cons (by first | exact AllC.le (by rfl) (Root.Le.refl _) (hCon _) | exact AllC.ref (by rfl) ⟨rfl, ltb rfl⟩ | exact AllC.le (by rfl) (by first | with_reducible exact Root.Le.refl _ | with_reducible exact le_dead | (skip; done) | exact byLeq) (by exact byCon)) (AllC.cons (by first | exact AllC.le (by rfl) (Root.Le.refl _) (hCon _) | exact AllC.ref (by rfl) ⟨rfl, ltb rfl⟩ | exact AllC.le (by rfl) (by first | with_reducible exact Root.Le.refl _ | with_reducible exact le_dead | (skip; done) | exact byLeq) (by exact byCon)) (AllC.cons (by first | exact AllC.le (by rfl) (Root.Le.refl _) (hCon _) | exact AllC.ref (by rfl) ⟨rfl, ltb rfl⟩ | exact AllC.le (by rfl) (by first | with_reducible exact Root.Le.refl _ | with_reducible exact le_dead | (skip; done) | exact byLeq) (by exact byCon)) (trivial))))))) rfl rfl) (by exact bySlotsc)) ?_
      rintro ⟨j, E', has', tab'⟩ ⟨hj, hC⟩
      dsimp only at hj hC
      dsimp only [Hd.at]
      refine WP.rs T false tok (by rfl) (by exact byObl) ?_
      refine WP.seq ?_
      refine WP.cond (by rfl) (fun hc => WP.skip ?_) (fun hc => WP.exit ?_)
      · have hj : j < L.length := by have := of_decide_eq_true hc; omega
        clear hc
        obtain ⟨T', hT'⟩ := hC.ext
        have hxe : gd_ E' i = gd_ E i := by rw [hT']; exact getDp_lt _ _ hi
        have hiE : i < E'.length := by rw [hT', List.length_append]; omega
        have hq : Np N (gd_ L j) := hL _ (getDf_mem hj)
        have iq := inv_np hN hq
        have hx' : Np N (gd_ E' i) := hC.di.np hN hL _ (getDf_mem hiE)
        have hxc := con_np hN hx' hq
        have hlen' := hC.di.len
        have hder : Der N L (conF N (gd_ E' i) (gd_ L j)) := .con (hC.di.der _ (getDf_mem hiE)) (getDf_mem hj)
        have hT := take_fn N hN L E' (hC.di.np hN hL) (by omega) hC.di.ok (gd_ L j) (conF N (gd_ E' i) (gd_ L j)) hxc
        unfold tkM at hT
        refine WP.seq (WP.block ?_)
        refine WP.rs T false tok (by rfl) (by exact byObl) ?_
        refine WP.da (by kernel_rfl) 13 (by kernel_rfl) ?_
        refine WA.takes T false tok [0, 1, 2, 4, 5, 6, 7, 8, 10, 11] (f' := 4) (by kernel_rfl) (by rfl) (by rfl) (by rfl) (by exact byObl) (by rfl) (by rfl) ?_
        refine WA.all [3] (by kernel_rfl) (by simp) ?_; intro i' hi'; simp only [List.mem_cons, List.not_mem_nil, or_false] at hi'
        subst hi'
        refine ⟨_, _, _, rfl, by rfl, by rfl, MK.callP (back_fn (gd_ L j) N hN hq.perm.lt) (by rfl) (by simp [Sc, sc_pl, sc_ds, pl_ne, ds_ne]), ?_⟩
        refine WA.all [9] (by kernel_rfl) (by simp) ?_; intro i' hi'; simp only [List.mem_cons, List.not_mem_nil, or_false] at hi'
        subst hi'
        refine ⟨_, _, _, rfl, by rfl, by rfl, MK.callP (then_fn (backTo (gd_ L j) N) (gd_ E' i) N hN iq.perm.lt) (by rfl) (by simp [Sc, sc_pl, sc_ds, pl_ne, ds_ne]), ?_⟩
        refine WA.all [12] (by kernel_rfl) (by simp) ?_; intro i' hi'; simp only [List.mem_cons, List.not_mem_nil, or_false] at hi'
        subst hi'
        refine ⟨_, _, _, rfl, by rfl, by rfl, MK.callP (then_fn (mulF N (backTo (gd_ L j) N) (gd_ E' i)) (gd_ L j) N hN (mul_np iq hx').perm.lt) (by rfl) (by simp [Sc, sc_pl, sc_ds, pl_ne, ds_ne]), ?_⟩
        refine WA.tail (by rfl) (by rfl) (by kernel_rfl) ?_
        refine WPL.ghost (Ghost.cutC (Nat.le_refl _) (tauOf [0, 1, 2, 3, 4, 5, 6]) [(1, .sl 0 0 L.length 16), (2, .p 1 [] 0), (5, .p 2 [] 0), (7, tkF), (12, .i .i64 (i : Int)), (55, .sl 0 0 L.length 16), (56, .i .i64 (L.length : Int)), (57, .i .i64 (j : Int)), (61, tkF), (73, pl (conF N (gd_ E' i) (gd_ L j)))] [.row 27 L.length 16 (rowP L), .var (.i .i64 (N : Int)), .var (.sl 5 0 E'.length 16), .var (.p 4 [] 0), .var (grD N has' tab'), .row 27 E'.length 16 (rowP E'), .var (pl (gd_ L j))] (TakenC.of [0, 1, 2, 3, 4, 5, 6] (AllC.cons (by first | exact AllC.le (by rfl) (Root.Le.refl _) (hCon _) | exact AllC.ref (by rfl) ⟨rfl, ltb rfl⟩ | exact AllC.le (by rfl) (by first | with_reducible exact Root.Le.refl _ | with_reducible exact le_dead | (skip; done) | exact byLeq) (by exact byCon)) (AllC.cons (by first | exact AllC.le (by rfl) (Root.Le.refl _) (hCon _) | exact AllC.ref (by rfl) ⟨rfl, ltb rfl⟩ | exact AllC.le (by rfl) (by first | with_reducible exact Root.Le.refl _ | with_reducible exact le_dead | (skip; done) | exact byLeq) (by exact byCon)) (AllC.cons (by first | exact AllC.le (by rfl) (Root.Le.refl _) (hCon _) | exact AllC.ref (by rfl) ⟨rfl, ltb rfl⟩ | exact AllC.le (by rfl) (by first | with_reducible exact Root.Le.refl _ | with_reducible exact le_dead | (skip; done) | exact byLeq) (by exact byCon)) (AllC.cons (by first | exact AllC.le (by rfl) (Root.Le.refl _) (hCon _) | exact AllC.ref (by rfl) ⟨rfl, ltb rfl⟩ | exact AllC.le (by rfl) (by first | with_reducible exact Root.Le.refl _ | with_reducible exact le_dead | (skip; done) | exact byLeq) (by exact byCon)) (AllC.cons (by first | exact AllC.le (by rfl) (Root.Le.refl _) (hCon _) | exact AllC.ref (by rfl) ⟨rfl, ltb rfl⟩ | exact AllC.le (by rfl) (by first | with_reducible exact Root.Le.refl _ | with_reducible exact le_dead | (skip; done) | exact byLeq) (by exact byCon)) (AllC.cons (by first | exact AllC.le (by rfl) (Root.Le.refl _) (hCon _) | exact AllC.ref (by rfl) ⟨rfl, ltb rfl⟩ | exact AllC.le (by rfl) (by first | with_reducible exact Root.Le.refl _ | with_reducible exact le_dead | (skip; done) | exact byLeq) (by exact byCon)) (AllC.cons (by first | exact AllC.le (by rfl) (Root.Le.refl _) (hCon _) | exact AllC.ref (by rfl) ⟨rfl, ltb rfl⟩ | exact AllC.le (by rfl) (by first | with_reducible exact Root.Le.refl _ | with_reducible exact le_dead | (skip; done) | exact byLeq) (by exact byCon)) (trivial)))))))) rfl rfl) (by exact bySlotsc)) ?_
        refine WPL.callI [pl (conF N (gd_ E' i) (gd_ L j))] hT (by rfl) (by rfl) (fun y hy => by (simp only [List.mem_singleton] at hy; subst hy; exact pl_ne _)) three_sc (by rfl) (by rfl) ?_
        rintro r m1 ⟨⟨f, rfl⟩, h⟩ _
        rcases h with ⟨hin, rfl⟩ | ⟨hno, has2, tab2, rfl, hok2⟩
        · refine WPL.nil (noPan ?_)
          refine WP.run T false tok (by rfl) (by exact byObl) ?_
          refine Again.next ((j + 1, E', has', tab')) (Ghost.cutC (Nat.le_refl _) (tauOf [0, 1, 2, 3, 4, 5]) _ _ (TakenC.of [0, 1, 2, 3, 4, 5] (AllC.cons (by first | exact AllC.le (by rfl) (Root.Le.refl _) (hCon _) | exact AllC.ref (by rfl) ⟨rfl, ltb rfl⟩ | exact AllC.le (by rfl) (by first | with_reducible exact Root.Le.refl _ | with_reducible exact le_dead | (skip; done) | exact byLeq) (by exact byCon)) (AllC.cons (by first | exact AllC.le (by rfl) (Root.Le.refl _) (hCon _) | exact AllC.ref (by rfl) ⟨rfl, ltb rfl⟩ | exact AllC.le (by rfl) (by first | with_reducible exact Root.Le.refl _ | with_reducible exact le_dead | (skip; done) | exact byLeq) (by exact byCon)) (AllC.cons (by first | exact AllC.le (by rfl) (Root.Le.refl _) (hCon _) | exact AllC.ref (by rfl) ⟨rfl, ltb rfl⟩ | exact AllC.le (by rfl) (by first | with_reducible exact Root.Le.refl _ | with_reducible exact le_dead | (skip; done) | exact byLeq) (by exact byCon)) (AllC.cons (by first | exact AllC.le (by rfl) (Root.Le.refl _) (hCon _) | exact AllC.ref (by rfl) ⟨rfl, ltb rfl⟩ | exact AllC.le (by rfl) (by first | with_reducible exact Root.Le.refl _ | with_reducible exact le_dead | (skip; done) | exact byLeq) (by exact byCon)) (AllC.cons (by first | exact AllC.le (by rfl) (Root.Le.refl _) (hCon _) | exact AllC.ref (by rfl) ⟨rfl, ltb rfl⟩ | exact AllC.le (by rfl) (by first | with_reducible exact Root.Le.refl _ | with_reducible exact le_dead | (skip; done) | exact byLeq) (by exact byCon)) (AllC.cons (by first | exact AllC.le (by rfl) (Root.Le.refl _) (hCon _) | exact AllC.ref (by rfl) ⟨rfl, ltb rfl⟩ | exact AllC.le (by rfl) (by first | with_reducible exact Root.Le.refl _ | with_reducible exact le_dead | (skip; done) | exact byLeq) (by exact byCon)) (trivial))))))) rfl rfl) (by exact bySlotsc)) (⟨hj, hC.di, hC.com, hC.con, fun b hb => (by
            by_cases e : b = j
            · subst e; rw [← hxe]; exact hin
            · exact hC.now b (by omega)), hC.ext, hC.mu⟩) (by dsimp only; omega)
        · obtain ⟨hdi2, hfr⟩ := hC.di.grow hN hL hder hno hok2
          have mono : ∀ g, Grp N E' g → Grp N (E' ++ [conF N (gd_ E' i) (gd_ L j)]) g := fun g hg => hg.mono fun g hg => by simp [hg]
          have hmu := hC.mu
          have hl2 : (E' ++ [conF N (gd_ E' i) (gd_ L j)]).length = E'.length + 1 := by simp
          unfold tkN
          refine WPL.nil (noPan ?_)
          refine WP.run T false tok (by rfl) (by exact byObl) ?_
          refine Again.next ((j + 1, E' ++ [conF N (gd_ E' i) (gd_ L j)], has2, tab2)) (Ghost.cutC (Nat.le_refl _) (tauOf [0, 1, 2, 3, 8, 7]) _ _ (TakenC.of [0, 1, 2, 3, 8, 7] (AllC.cons (by first | exact AllC.le (by rfl) (Root.Le.refl _) (hCon _) | exact AllC.ref (by rfl) ⟨rfl, ltb rfl⟩ | exact AllC.le (by rfl) (by first | with_reducible exact Root.Le.refl _ | with_reducible exact le_dead | (skip; done) | exact byLeq) (by exact byCon)) (AllC.cons (by first | exact AllC.le (by rfl) (Root.Le.refl _) (hCon _) | exact AllC.ref (by rfl) ⟨rfl, ltb rfl⟩ | exact AllC.le (by rfl) (by first | with_reducible exact Root.Le.refl _ | with_reducible exact le_dead | (skip; done) | exact byLeq) (by exact byCon)) (AllC.cons (by first | exact AllC.le (by rfl) (Root.Le.refl _) (hCon _) | exact AllC.ref (by rfl) ⟨rfl, ltb rfl⟩ | exact AllC.le (by rfl) (by first | with_reducible exact Root.Le.refl _ | with_reducible exact le_dead | (skip; done) | exact byLeq) (by exact byCon)) (AllC.cons (by first | exact AllC.le (by rfl) (Root.Le.refl _) (hCon _) | exact AllC.ref (by rfl) ⟨rfl, ltb rfl⟩ | exact AllC.le (by rfl) (by first | with_reducible exact Root.Le.refl _ | with_reducible exact le_dead | (skip; done) | exact byLeq) (by exact byCon)) (AllC.cons (by first | exact AllC.le (by rfl) (Root.Le.refl _) (hCon _) | exact AllC.ref (by rfl) ⟨rfl, ltb rfl⟩ | exact AllC.le (by rfl) (by first | with_reducible exact Root.Le.refl _ | with_reducible exact le_dead | (skip; done) | exact byLeq) (by exact byCon)) (AllC.cons (by first | exact AllC.le (by rfl) (Root.Le.refl _) (hCon _) | exact AllC.ref (by rfl) ⟨rfl, ltb rfl⟩ | exact AllC.le (by rfl) (by first | with_reducible exact Root.Le.refl _ | with_reducible exact le_dead | (skip; done) | exact byLeq) (by exact byCon)) (trivial))))))) rfl rfl) (by exact bySlotsc)) (⟨hj, hdi2, fun a b ha hb => mono _ (hC.com a b ha hb), fun a b ha hb => mono _ (hC.con a b ha hb), fun b hb => (by
            by_cases e : b = j
            · subst e; rw [← hxe]; exact Grp.gen (hdi2.np hN hL) (by simp)
            · exact mono _ (hC.now b (by omega))), ⟨T' ++ [conF N (gd_ E' i) (gd_ L j)], by rw [hT', List.append_assoc]⟩, by dsimp only; rw [hl2]; omega⟩) (by dsimp only; omega)
      · have hj : j = L.length := by have := of_decide_eq_false hc; omega
        subst hj
        obtain ⟨hB', hm1, hm2⟩ := hC.done hi
        refine WP.run T false tok (by rfl) (by exact byObl) ?_
        refine Again.next ((i + 1, E', has', tab')) (Ghost.cutC (Nat.le_refl _) (tauOf [0, 1, 2, 3, 4, 5]) _ _ (TakenC.of [0, 1, 2, 3, 4, 5] (AllC.cons (by first | exact AllC.le (by rfl) (Root.Le.refl _) (hCon _) | exact AllC.ref (by rfl) ⟨rfl, ltb rfl⟩ | exact AllC.le (by rfl) (by first | with_reducible exact Root.Le.refl _ | with_reducible exact le_dead | (skip; done) | exact byLeq) (by exact byCon)) (AllC.cons (by first | exact AllC.le (by rfl) (Root.Le.refl _) (hCon _) | exact AllC.ref (by rfl) ⟨rfl, ltb rfl⟩ | exact AllC.le (by rfl) (by first | with_reducible exact Root.Le.refl _ | with_reducible exact le_dead | (skip; done) | exact byLeq) (by exact byCon)) (AllC.cons (by first | exact AllC.le (by rfl) (Root.Le.refl _) (hCon _) | exact AllC.ref (by rfl) ⟨rfl, ltb rfl⟩ | exact AllC.le (by rfl) (by first | with_reducible exact Root.Le.refl _ | with_reducible exact le_dead | (skip; done) | exact byLeq) (by exact byCon)) (AllC.cons (by first | exact AllC.le (by rfl) (Root.Le.refl _) (hCon _) | exact AllC.ref (by rfl) ⟨rfl, ltb rfl⟩ | exact AllC.le (by rfl) (by first | with_reducible exact Root.Le.refl _ | with_reducible exact le_dead | (skip; done) | exact byLeq) (by exact byCon)) (AllC.cons (by first | exact AllC.le (by rfl) (Root.Le.refl _) (hCon _) | exact AllC.ref (by rfl) ⟨rfl, ltb rfl⟩ | exact AllC.le (by rfl) (by first | with_reducible exact Root.Le.refl _ | with_reducible exact le_dead | (skip; done) | exact byLeq) (by exact byCon)) (AllC.cons (by first | exact AllC.le (by rfl) (Root.Le.refl _) (hCon _) | exact AllC.ref (by rfl) ⟨rfl, ltb rfl⟩ | exact AllC.le (by rfl) (by first | with_reducible exact Root.Le.refl _ | with_reducible exact le_dead | (skip; done) | exact byLeq) (by exact byCon)) (trivial))))))) rfl rfl) (by exact bySlotsc)) (⟨by dsimp only; omega, hB'⟩) (by dsimp only; omega)
    · have hi : i = E.length := by have := of_decide_eq_false hc; omega
      subst hi
      have hnp := hB.di.np hN hL
      have hiff := hB.done hN hL
      refine WP.rs T false tok (by rfl) (by exact byObl) ?_
      exact WP.ret (Ends.newE [0, 5] (⟨E, rfl, rfl, hnp, by omega, hiff⟩) (.inl rfl) (by rfl) (by exact byObl) (LeAll.cons (by rfl) (by first | with_reducible exact Root.Le.refl _ | with_reducible exact le_dead | (skip; done) | exact byLeq) (by exact byCon) (LeAll.cons (by rfl) (by first | with_reducible exact Root.Le.refl _ | with_reducible exact le_dead | (skip; done) | exact byLeq) (by exact byCon) (trivial))) rfl rfl (rfl) (sc_sl rfl))

end Go.Proofs.Ytokhjhkicledmaa

/- DerivedSeries, the program's side. -/
namespace Go.Proofs.Ytokhjhkicledmaa
open Go.RowKit DM
set_option linter.unusedSimpArgs false
set_option linter.unusedVariables false
set_option maxRecDepth 100000
set_option maxHeartbeats 1000000

/-- The orders of the first k groups of the series. -/
noncomputable def serL (N : Nat) (G : Pd) (k : Nat) : List Nat := (List.range k).map (serO N G)
theorem serL_len (N : Nat) (G : Pd) (k : Nat) : (serL N G k).length = k := by simp [serL]
theorem serL_succ (N : Nat) (G : Pd) (k : Nat) : serL N G (k + 1) = serL N G k ++ [serO N G k] := by unfold serL; rw [List.range_succ, List.map_append]; rfl
theorem serL_last (N : Nat) (G : Pd) {k : Nat} (hk : 1 ≤ k) : (serL N G k).getD (k - 1) 0 = serO N G (k - 1) := by
  obtain ⟨j, rfl⟩ : ∃ j, k = j + 1 := ⟨k - 1, by omega⟩
  rw [serL_succ, show j + 1 - 1 = (serL N G j).length by rw [serL_len]; omega, getD_snoc, serL_len]

theorem DK.small {N : Nat} (hN : N ≤ 16) {L : List (Nat → Nat)} (hL : ∀ g ∈ L, Np N g) {G : Pd} {k : Nat} (h : Grp N L = DK N G k) : serO N G k = ordG N L ∧ serO N G k ≤ 20922789888000 := by
  have e : serO N G k = ordG N L := by unfold serO; rw [← h, ordG_P]
  exact ⟨e, by rw [e]; exact ordG_le hN hL⟩
/-- Orders do not rise. -/
theorem DK.down {N : Nat} (hN : N ≤ 16) {L : List (Nat → Nat)} (hL : ∀ g ∈ L, Np N g) {G : Pd} {k : Nat} (h : Grp N L = DK N G k) : serO N G (k + 1) ≤ serO N G k := by
  refine ordP_mono fun g hg => ?_
  have hg : DerP N (DK N G k) g := hg
  rw [← h, ← der_P hN hL] at hg
  rw [← h]
  exact hg.grp hN hL

theorem implSeriesNo_fn (n : Int) (b w : Nat → Nat) (hb : ∀ i, b i < 256) (hw : ∀ i, w i < 256) (hc : desB n b w = false) : FnS Try.prog 27 [ds_ n b w] [] fun r m' => r = t2 .ns (.i .i64 1) ∧ m' = [] := by
  refine FnS.intoN T tok Try.func27 (by rfl) rfl rfl rfl (by simp) ?_
  refine WP.rs T false tok (by rfl) (by exact byObl) ?_
  refine WP.seq ?_
  refine WP.rw ?_
  refine WPL.run T false 1 tok (by rfl) (by exact byObl) ?_
  refine WPL.call (hc ▸ implIsDessin_fn n b w hb hw) (by rfl) (by rfl) (by rfl) (by simp [Sc, sc_pl, sc_ds, pl_ne, ds_ne]) ?_
  refine WPL.fin T false tok (by rfl) (by exact byObl) ?_
  refine WP.cond (by rfl) (fun h => ?_) (fun h => WP.skip ?_)
  · refine WP.rs T false tok (by rfl) (by exact byObl) ?_
    exact WP.ret (Ends.new [] (by rfl) (by exact byObl) (trivial) rfl rfl (ren_t2 ⟨rfl, trivial⟩ ⟨rfl, trivial⟩) (sc_t2 trivial trivial))
  · cases h

theorem implSeries_fn (N : Nat) (b w : Nat → Nat) (hb : ∀ i, b i < 256) (hw : ∀ i, w i < 256) (hc : desB N b w = true) (hD : Des N b w) (hnb : Np N b) (hnw : Np N w) : FnS Try.prog 27 [ds_ N b w] [] fun r m' => ∃ k, r = t2 (.sl 0 0 (serL N (Grp N [b, w]) k).length 1) (.i .i64 0) ∧ m' = [.row 2 (serL N (Grp N [b, w]) k).length 1 (numsF (serL N (Grp N [b, w]) k))] ∧ Stop N (Grp N [b, w]) k := by
  generalize hG : Grp N [b, w] = G
  have hN := hD.le
  refine FnS.intoE T tok Try.func27 (by rfl) rfl rfl rfl (by simp) ?_
  refine WP.rs T false tok (by rfl) (by exact byObl) ?_
  refine WP.seq ?_
  refine WP.rw ?_
  refine WPL.run T false 1 tok (by rfl) (by exact byObl) ?_
  refine WPL.call (hc ▸ implIsDessin_fn N b w hb hw) (by rfl) (by rfl) (by rfl) (by simp [Sc, sc_pl, sc_ds, pl_ne, ds_ne]) ?_
  refine WPL.fin T false tok (by rfl) (by exact byObl) ?_
  refine WP.cond (by rfl) (fun h => ?_) (fun h => WP.skip ?_)
  · cases h
  refine WP.seqG ⟨lst [(4, .i .i64 (N : Int)), (5, .sl 1 0 2 16), (6, .sl 2 0 0 1)], [.var (ds_ N b w), .row 27 2 16 (rowP [b, w]), .row 2 0 1 (numsF [])]⟩ ?_ ?_
  · refine WP.da (by kernel_rfl) 11 (by kernel_rfl) ?_
    refine WA.takes T false tok [0, 1, 2, 3, 4, 5] (f' := 5) (by kernel_rfl) (by rfl) (by rfl) (by rfl) (by exact byObl) (by rfl) (by rfl) ?_
    refine WA.move 8 (by rfl) (by first | exact .inl rfl | exact .inr rfl) (by kernel_rfl) (by kernel_rfl) (by rfl) (by rfl) ?_
    refine WA.all [6, 7] (by kernel_rfl) (by simp) ?_; intro i' hi'; simp only [List.mem_cons, List.not_mem_nil, or_false] at hi'
    rcases hi' with rfl | rfl
    · refine ⟨_, _, _, rfl, by rfl, by rfl, MK.of tok (wm := false) (by rfl) (by exact byObl) (by rfl) (by exact byObl), ?_⟩
      refine WA.move 9 (by rfl) (by first | exact .inl rfl | exact .inr rfl) (by kernel_rfl) (by kernel_rfl) (by rfl) (by rfl) ?_
      refine WA.all [7] (by kernel_rfl) (by simp) ?_; intro i' hi'; simp only [List.mem_cons, List.not_mem_nil, or_false] at hi'
      subst hi'
      refine ⟨_, _, _, rfl, by rfl, by rfl, MK.of tok (wm := false) (by rfl) (by exact byObl) (by rfl) (by exact byObl), ?_⟩
      refine WA.move 10 (by rfl) (by first | exact .inl rfl | exact .inr rfl) (by kernel_rfl) (by kernel_rfl) (by rfl) (by rfl) ?_
      refine WA.end rfl (by kernel_rfl) (noPan ?_)
      exact Ghost.cut (Nat.le_refl _) (tauOf [0, 1, 2]) [(4, .i .i64 (N : Int)), (5, .sl 1 0 2 16), (6, .sl 2 0 0 1)] [.var (ds_ N b w), .row 27 2 16 (rowP [b, w]), .row 2 0 1 (numsF [])] (Taken.of [0, 1, 2] (LeAll.cons (by rfl) (by first | with_reducible exact Root.Le.refl _ | with_reducible exact le_dead | (first | exact le_var (dsf_of rfl rfl rfl fun _ => rfl).symm | exact le_row (Nat.le_refl _) row_two | exact le_row (Nat.le_refl _) (fun j hj => absurd hj (Nat.not_lt_zero _))) | exact byLeq) (by exact byCon) (LeAll.cons (by rfl) (by first | with_reducible exact Root.Le.refl _ | with_reducible exact le_dead | (first | exact le_var (dsf_of rfl rfl rfl fun _ => rfl).symm | exact le_row (Nat.le_refl _) row_two | exact le_row (Nat.le_refl _) (fun j hj => absurd hj (Nat.not_lt_zero _))) | exact byLeq) (by exact byCon) (LeAll.cons (by rfl) (by first | with_reducible exact Root.Le.refl _ | with_reducible exact le_dead | (first | exact le_var (dsf_of rfl rfl rfl fun _ => rfl).symm | exact le_row (Nat.le_refl _) row_two | exact le_row (Nat.le_refl _) (fun j hj => absurd hj (Nat.not_lt_zero _))) | exact byLeq) (by exact byCon) (trivial)))) rfl rfl) (by exact bySlots)
    · refine ⟨_, _, _, rfl, by rfl, by rfl, MK.of tok (wm := false) (by rfl) (by exact byObl) (by rfl) (by exact byObl), ?_⟩
      refine WA.all [6] (by kernel_rfl) (by simp) ?_; intro i' hi'; simp only [List.mem_cons, List.not_mem_nil, or_false] at hi'
      subst hi'
      refine ⟨_, _, _, rfl, by rfl, by rfl, MK.of tok (wm := false) (by rfl) (by exact byObl) (by rfl) (by exact byObl), ?_⟩
      refine WA.move 9 (by rfl) (by first | exact .inl rfl | exact .inr rfl) (by kernel_rfl) (by kernel_rfl) (by rfl) (by rfl) ?_
      refine WA.move 10 (by rfl) (by first | exact .inl rfl | exact .inr rfl) (by kernel_rfl) (by kernel_rfl) (by rfl) (by rfl) ?_
      refine WA.end rfl (by kernel_rfl) (noPan ?_)
      exact Ghost.cut (Nat.le_refl _) (tauOf [0, 2, 1]) [(4, .i .i64 (N : Int)), (5, .sl 1 0 2 16), (6, .sl 2 0 0 1)] [.var (ds_ N b w), .row 27 2 16 (rowP [b, w]), .row 2 0 1 (numsF [])] (Taken.of [0, 2, 1] (LeAll.cons (by rfl) (by first | with_reducible exact Root.Le.refl _ | with_reducible exact le_dead | (first | exact le_var (dsf_of rfl rfl rfl fun _ => rfl).symm | exact le_row (Nat.le_refl _) row_two | exact le_row (Nat.le_refl _) (fun j hj => absurd hj (Nat.not_lt_zero _))) | exact byLeq) (by exact byCon) (LeAll.cons (by rfl) (by first | with_reducible exact Root.Le.refl _ | with_reducible exact le_dead | (first | exact le_var (dsf_of rfl rfl rfl fun _ => rfl).symm | exact le_row (Nat.le_refl _) row_two | exact le_row (Nat.le_refl _) (fun j hj => absurd hj (Nat.not_lt_zero _))) | exact byLeq) (by exact byCon) (LeAll.cons (by rfl) (by first | with_reducible exact Root.Le.refl _ | with_reducible exact le_dead | (first | exact le_var (dsf_of rfl rfl rfl fun _ => rfl).symm | exact le_row (Nat.le_refl _) row_two | exact le_row (Nat.le_refl _) (fun j hj => absurd hj (Nat.not_lt_zero _))) | exact byLeq) (by exact byCon) (trivial)))) rfl rfl) (by exact bySlots)
  refine WP.block ?_
  refine WP.loopH (⟨fun z : Nat × List (Nat → Nat) × List Nat => (∀ g ∈ z.2.1, Np N g) ∧ z.2.1.length ≤ 256 ∧ Grp N z.2.1 = DK N G z.1 ∧ (∀ j, j + 1 < z.1 → serO N G (j + 1) ≠ serO N G j) ∧ z.2.2 = serL N G z.1 ∧ (z.1 ≠ 0 → z.1 ≤ frK N G (z.1 - 1) + 1) ∧ (z.1 ≠ 0 → ∃ L', (∀ g ∈ L', Np N g) ∧ Grp N L' = DK N G (z.1 - 1)), fun z => [(4, .i .i64 (N : Int)), (5, .sl 1 0 z.2.1.length 16), (6, .sl 2 0 z.2.2.length 1)], fun z => [.var (ds_ N b w), .row 27 z.2.1.length 16 (rowP z.2.1), .row 2 z.2.2.length 1 (numsF z.2.2)], fun z => 300 - z.1⟩) ((0, [b, w], [])) (⟨des_L hnb hnw, by simp, hG, fun j h => absurd h (by omega), rfl, fun h => absurd rfl h, fun h => absurd rfl h⟩) (Ghost.cut (Nat.le_refl _) (tauOf [0, 1, 2]) _ _ (Taken.of [0, 1, 2] (LeAll.cons (by rfl) (by first | with_reducible exact Root.Le.refl _ | with_reducible exact le_dead | (skip; done) | exact byLeq) (by exact byCon) (LeAll.cons (by rfl) (by first | with_reducible exact Root.Le.refl _ | with_reducible exact le_dead | (skip; done) | exact byLeq) (by exact byCon) (LeAll.cons (by rfl) (by first | with_reducible exact Root.Le.refl _ | with_reducible exact le_dead | (skip; done) | exact byLeq) (by exact byCon) (trivial)))) rfl rfl) (by exact bySlots)) ?_
  rintro ⟨k, L, O⟩ ⟨hL, hl, hK, hne, hO, hkm, hprev⟩
  dsimp only at hL hl hK hne hO hkm hprev
  dsimp only [Hd.at]
  obtain ⟨hs1, hs2⟩ := DK.small hN hL hK
  have hOl : O.length = k := by rw [hO, serL_len]
  have hk257 : k ≤ 257 := by
    by_cases h0 : k = 0
    · omega
    · have := hkm h0
      have := frK_le hN G (k - 1)
      omega
  refine WP.block ?_
  refine WP.rw ?_
  refine WPL.run T false 2 tok (by rfl) (by exact byObl) ?_
  refine WPL.callE [1] (groupOf_fn N hN L hL (by omega)) (LeAll.cons (by rfl) (by first | with_reducible exact Root.Le.refl _ | with_reducible exact le_dead | (skip; done) | exact byLeq) (by exact byCon) (trivial)) (by rfl) (by rfl) (by exact byArgs) (by rfl) (by rfl) (by simp [Sc, sc_pl, sc_ds]) ?_
  rintro _ _ ⟨rfl, has, tab, rfl, hok⟩
  refine ⟨by exact byAllc, .p 3 [] 0, rfl, sc_p rfl, ?_⟩
  refine WPL.mem (by rfl) ?_
  have hg := gorder_fn N hN has tab hok.1
  rw [hok.ord hN, ← hs1] at hg
  have hmor : k ≠ 0 → serO N G k ≠ serO N G (k - 1) → frK N G (k - 1) + 1 ≤ frK N G k := fun h0 hn => by
    obtain ⟨L', hL', hK'⟩ := hprev h0
    have := DK.more hN hL' hK'
    rw [show k - 1 + 1 = k by omega] at this
    exact this hn
  have hdr := derived_fn N hN L hL (by omega)
  generalize hs : serO N G k = s at *
  refine WPL.callN [3] (.i .i64 ((s : Nat) : Int)) (hg) (LeAll.cons (by rfl) (by first | with_reducible exact Root.Le.refl _ | with_reducible exact le_dead | (skip; done) | exact byLeq) (by exact byCon) (trivial)) (by rfl) (by rfl) (by exact byArgs) (by rfl) (by rfl) (by simp [Sc, sc_pl, sc_ds]) (by exact byAllc) (⟨rfl, trivial⟩) (by exact bySc) rfl ?_
  refine WPL.fin T false tok (by rfl) (by exact byObl) ?_
  refine WP.seq ?_
  refine WP.rw ?_
  refine WPL.run T false 3 tok (by rfl) (by exact byObl) ?_
  have hgo : s ≠ serO N G (k - 1) ∨ k = 0 → ∀ e, (∀ g ∈ e, Np N g) ∧ e.length ≤ 256 ∧ (∀ g, Grp N e g ↔ Der N L g) → (∀ g ∈ e, Np N g) ∧ e.length ≤ 256 ∧ Grp N e = DK N G (k + 1) ∧ (∀ j, j + 1 < k + 1 → serO N G (j + 1) ≠ serO N G j) ∧ O ++ [s] = serL N G (k + 1) ∧ (k + 1 ≠ 0 → k + 1 ≤ frK N G (k + 1 - 1) + 1) ∧ (k + 1 ≠ 0 → ∃ L', (∀ g ∈ L', Np N g) ∧ Grp N L' = DK N G (k + 1 - 1)) := by
    rintro hor e ⟨he1, he2, he3⟩
    refine ⟨he1, he2, DK.gens hN hL hK he3, fun j hj => ?_, by rw [serL_succ, ← hO, hs], fun _ => ?_, fun _ => ⟨L, hL, hK⟩⟩
    · by_cases e2 : j + 1 = k
      · rcases hor with hor | hor
        · subst e2; rw [hs]; exact hor
        · omega
      · exact hne j (by omega)
    · rw [Nat.add_sub_cancel]
      by_cases h0 : k = 0
      · omega
      · rcases hor with hor | hor
        · have h3 := hkm h0
          have h4 : frK N G (k - 1) + 1 ≤ frK N G k := hmor h0 hor
          omega
        · exact absurd hor h0
  cases h1 : decide ((0 : Int) < ((O.length : Nat) : Int))
  · have h0 : k = 0 := by have := of_decide_eq_false h1; omega
    refine WPL.fin T false tok (by rfl) (by exact byObl) ?_
    refine WP.cond (by rfl) (fun h => ?_) (fun h => WP.skip ?_)
    · cases h
    have hgo := hgo (.inr h0)
    refine WP.rs T false tok (by rfl) (by exact byObl) ?_
    refine WP.region ?_
    refine WPL.run T false 2 tok (by rfl) (by exact byObl) ?_
    refine WPL.callE [1] (hdr) (LeAll.cons (by rfl) (by first | with_reducible exact Root.Le.refl _ | with_reducible exact le_dead | (skip; done) | exact byLeq) (by exact byCon) (trivial)) (by rfl) (by rfl) (by exact byArgs) (by rfl) (by rfl) (by simp [Sc, sc_pl, sc_ds]) ?_
    rintro _ _ ⟨E, rfl, rfl, he1, he2, he3⟩
    refine ⟨by exact byAllc, .sl 6 0 E.length 16, rfl, sc_sl rfl, ?_⟩
    refine WPL.mem (by rfl) ?_
    refine WPL.fin T false tok (by rfl) (by exact byObl) ?_
    have hLen : (O ++ [s]).length = O.length + 1 := by simp
    refine Again.next ((k + 1, E, O ++ [s])) (Ghost.cut (Nat.le_refl _) (tauOf [0, 6, 5]) _ _ (Taken.of [0, 6, 5] (LeAll.cons (by rfl) (by first | with_reducible exact Root.Le.refl _ | with_reducible exact le_dead | (exact le_row (Nat.le_of_eq hLen) (fun j hj => ap_nums _ _ _ j (by rw [hLen] at hj; exact hj))) | exact byLeq) (by exact byCon) (LeAll.cons (by rfl) (by first | with_reducible exact Root.Le.refl _ | with_reducible exact le_dead | (exact le_row (Nat.le_of_eq hLen) (fun j hj => ap_nums _ _ _ j (by rw [hLen] at hj; exact hj))) | exact byLeq) (by exact byCon) (LeAll.cons (by rfl) (by first | with_reducible exact Root.Le.refl _ | with_reducible exact le_dead | (exact le_row (Nat.le_of_eq hLen) (fun j hj => ap_nums _ _ _ j (by rw [hLen] at hj; exact hj))) | exact byLeq) (by exact byCon) (trivial)))) rfl rfl) (by exact bySlots)) (hgo E ⟨he1, he2, he3⟩) (by dsimp only; omega)
  · have h0 : k ≠ 0 := by have := of_decide_eq_true h1; omega
    have hP : (((O.length : Nat) : Int) - 1).toNat = k - 1 := by omega
    have hlast : O.getD (addrAt 0 (((O.length : Nat) : Int) - 1).toNat) 0 = serO N G (k - 1) := by rw [addrAt0, hP, hO, serL_last N G (by omega)]
    refine WPL.run T false 7 tok (by rfl) (by exact byObl) ?_
    rw [hlast]
    refine WPL.fin T false tok (by rfl) (by exact byObl) ?_
    by_cases heq : s = serO N G (k - 1)
    · have hst : Stop N G k := ⟨by omega, by rw [hs]; exact heq, hne⟩
      refine WP.cond (by rfl) (fun h => ?_) (fun h => WP.skip ?_)
      · refine WP.rs T false tok (by rfl) (by exact byObl) ?_
        rw [hO]
        exact WP.ret (Ends.newE [2] (⟨k, rfl, rfl, hst⟩) (.inl rfl) (by rfl) (by exact byObl) (LeAll.cons (by rfl) (by first | with_reducible exact Root.Le.refl _ | with_reducible exact le_dead | (skip; done) | exact byLeq) (by exact byCon) (trivial)) rfl rfl (ren_t2 rfl ⟨rfl, trivial⟩) (sc_t2 (sc_sl rfl) trivial))
      · have h := of_decide_eq_false h
        exact absurd (by exact_mod_cast heq.symm) h
    · refine WP.cond (by rfl) (fun h => ?_) (fun h => WP.skip ?_)
      · have h := of_decide_eq_true h
        exact absurd (by exact_mod_cast h.symm) heq
      have hgo := hgo (.inl heq)
      refine WP.rs T false tok (by rfl) (by exact byObl) ?_
      refine WP.region ?_
      refine WPL.run T false 2 tok (by rfl) (by exact byObl) ?_
      refine WPL.callE [1] (hdr) (LeAll.cons (by rfl) (by first | with_reducible exact Root.Le.refl _ | with_reducible exact le_dead | (skip; done) | exact byLeq) (by exact byCon) (trivial)) (by rfl) (by rfl) (by exact byArgs) (by rfl) (by rfl) (by simp [Sc, sc_pl, sc_ds]) ?_
      rintro _ _ ⟨E, rfl, rfl, he1, he2, he3⟩
      refine ⟨by exact byAllc, .sl 6 0 E.length 16, rfl, sc_sl rfl, ?_⟩
      refine WPL.mem (by rfl) ?_
      refine WPL.fin T false tok (by rfl) (by exact byObl) ?_
      have hLen : (O ++ [s]).length = O.length + 1 := by simp
      refine Again.next ((k + 1, E, O ++ [s])) (Ghost.cut (Nat.le_refl _) (tauOf [0, 6, 5]) _ _ (Taken.of [0, 6, 5] (LeAll.cons (by rfl) (by first | with_reducible exact Root.Le.refl _ | with_reducible exact le_dead | (exact le_row (Nat.le_of_eq hLen) (fun j hj => ap_nums _ _ _ j (by rw [hLen] at hj; exact hj))) | exact byLeq) (by exact byCon) (LeAll.cons (by rfl) (by first | with_reducible exact Root.Le.refl _ | with_reducible exact le_dead | (exact le_row (Nat.le_of_eq hLen) (fun j hj => ap_nums _ _ _ j (by rw [hLen] at hj; exact hj))) | exact byLeq) (by exact byCon) (LeAll.cons (by rfl) (by first | with_reducible exact Root.Le.refl _ | with_reducible exact le_dead | (exact le_row (Nat.le_of_eq hLen) (fun j hj => ap_nums _ _ _ j (by rw [hLen] at hj; exact hj))) | exact byLeq) (by exact byCon) (trivial)))) rfl rfl) (by exact bySlots)) (hgo E ⟨he1, he2, he3⟩) (by dsimp only; omega)

end Go.Proofs.Ytokhjhkicledmaa
