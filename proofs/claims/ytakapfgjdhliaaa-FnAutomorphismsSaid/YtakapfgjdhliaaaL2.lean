import Derived.Test.YtakapfgjdhliaaaX131
import Derived.Test.YtakapfgjdhliaaaD30
/- Draws: permutations made of cycles of pairs and more. -/
namespace Go.Proofs.Ytakapfgjdhliaaa
open Go.RowKit DM
set_option linter.unusedSimpArgs false
set_option linter.unusedVariables false
set_option maxRecDepth 100000
set_option maxHeartbeats 1000000

theorem minD_ok {P : Program} {o : Oper} {fr : Nat → Dat} {m : List Root} {x y : Operand} {ts : Array TypeId} {k : IntKind} {a b : Int} (ho : o.op = .call { callee := .builtin .min, args := #[x, y], argTypes := ts }) (hx : ev fr x = .i k a) (hy : ev fr y = .i k b) : QOK P o fr m (.i k (if b < a then b else a)) m :=
  .of_run fun N ρ ac w hf hr => by
    obtain ⟨h0, _⟩ := ev_eq hf (x := x) hx (by simp)
    obtain ⟨h1, _⟩ := ev_eq hf (x := y) hy (by simp)
    refine ⟨?_, trivial, trivial, trivial⟩
    simp [execOp, ho, resolve, invoke, builtin, h0, h1, enc, leaf, Builtin.min_, Builtin.min2, Result.andThen]

theorem l01Pairs_fn (len : Nat) (g : Nat → Nat) (hg : ∀ j, g j < 256) (a : Nat) (h : Int) (n : Nat) (most : Int) (hn1 : 1 ≤ n) (hn : n ≤ 16) (hm : most ≤ 1000) (ha : a ≤ len) (hl : len ≤ 4294967296) :
    FnS Try.prog 60 [.p 0 [] 0, .i .i64 (n : Int), .i .i64 most] [.var (srcD len g a h)] fun r m' => ∃ (p : Nat → Nat) (a' : Nat) (h' : Int), r = pl p ∧ Bt n p ∧ a' ≤ len ∧ m' = [.var (srcD len g a' h')] := by
  have hSc : ∀ (k : Nat) (h : Int), Sc k (srcD len g a h) := fun k h => sc_src k len g a h
  have hdp := l01DrawPlaces_fn len g hg a h (n : Int) (by omega) (by omega) ha hl
  refine FnS.intoE T tok Try.func60 (by rfl) rfl rfl rfl (by simp) ?_
  refine WP.rs T false tok (by rfl) (by exact byObl) ?_
  refine WP.rw ?_
  refine WPL.run T false 2 tok (by rfl) (by exact byObl) ?_
  refine WPL.callE [0] (hdp) (LeAll.cons (by rfl) (by first | with_reducible exact Root.Le.refl _ | with_reducible exact le_dead | (skip; done) | exact byLeq) (by exact byCon) (trivial)) (by rfl) (by rfl) (by exact byArgs) (by rfl) (by rfl) (by simp [Sc, sc_pl, sc_ds]) ?_
  rintro _ _ ⟨p, a', h', rfl, hp, ha', rfl⟩
  rw [bN_nat hn1] at hp
  refine ⟨⟨fun d hd => by cases hd; exact sc_src _ _ _ _ _, trivial⟩, pl p, ⟨rfl, sc_pl _ _⟩, sc_pl _ _, ?_⟩
  refine WPL.mem (by rfl) ?_
  have hSc : ∀ (k : Nat) (h : Int), Sc k (srcD len g a' h) := fun k h => sc_src k len g a' h
  refine WPL.run T false 1 tok (by rfl) (by exact byObl) ?_
  refine WPL.call (l01Same_fn n hn) (by rfl) (by rfl) (by rfl) (by simp [Sc, sc_pl, sc_ds, pl_ne, ds_ne]) ?_
  refine WPL.fin T false tok (by rfl) (by exact byObl) ?_
  refine WP.seq ?_
  refine WP.rs T false tok (by rfl) (by exact byObl) ?_
  refine WP.block ?_
  refine WP.loopH (⟨fun z : Nat × (Nat → Nat) × Nat × Int => z.1 ≤ n ∧ Bt n z.2.1 ∧ z.2.2.1 ≤ len, fun z => [(0, .p 0 [] 0), (1, .i .i64 (n : Int)), (2, .i .i64 most), (6, .p 1 [] 0), (7, .p 2 [] 0), (8, .p 3 [] 0), (9, .i .i64 (z.1 : Int))], fun z => [.var (srcD len g z.2.2.1 z.2.2.2), .var (pl fun _ => 0), .var (pl p), .var (pl z.2.1)], fun z => n - z.1⟩) ((0, fillF (fun i => i) n, a', h')) (⟨Nat.zero_le _, by have := bt_fill (n := (n : Int)) (by omega); rw [bN_nat hn1] at this; exact this, ha'⟩) (Ghost.cut (Nat.le_refl _) (tauOf [0, 1, 2, 3]) _ _ (Taken.of [0, 1, 2, 3] (LeAll.cons (by rfl) (by first | with_reducible exact Root.Le.refl _ | with_reducible exact le_dead | (skip; done) | exact byLeq) (by exact byCon) (LeAll.cons (by rfl) (by first | with_reducible exact Root.Le.refl _ | with_reducible exact le_dead | (skip; done) | exact byLeq) (by exact byCon) (LeAll.cons (by rfl) (by first | with_reducible exact Root.Le.refl _ | with_reducible exact le_dead | (skip; done) | exact byLeq) (by exact byCon) (LeAll.cons (by rfl) (by first | with_reducible exact Root.Le.refl _ | with_reducible exact le_dead | (skip; done) | exact byLeq) (by exact byCon) (trivial))))) rfl rfl) (by exact bySlots)) ?_
  rintro ⟨x, q, c, h1⟩ ⟨hx, hq, hcl⟩
  dsimp only at hx hq hcl
  dsimp only [Hd.at]
  have hSc : ∀ (k : Nat) (h : Int), Sc k (srcD len g c h) := fun k h => sc_src k len g c h
  refine WP.seq ?_
  refine WP.rs T false tok (by rfl) (by exact byObl) ?_
  refine WP.cond (by rfl) (fun hc => WP.skip ?_) (fun hc => WP.exit ?_)
  · have hx : x < n := by have := of_decide_eq_true hc; omega
    clear hc
    have hnx := l01Next_fn len g hg c h1 most hcl hl
    refine WP.block ?_
    refine WP.rw ?_
    refine WPL.run T false 2 tok (by rfl) (by exact byObl) ?_
    refine WPL.callE [0] (hnx) (LeAll.cons (by rfl) (by first | with_reducible exact Root.Le.refl _ | with_reducible exact le_dead | (skip; done) | exact byLeq) (by exact byCon) (trivial)) (by rfl) (by rfl) (by exact byArgs) (by rfl) (by rfl) (by simp [Sc, sc_pl, sc_ds]) ?_
    rintro _ _ ⟨y, c', h2, rfl, hy1, hy0, hc', rfl⟩
    obtain ⟨t, rfl, htm⟩ : ∃ t : Nat, y = t ∧ t ≤ 1000 := by
      by_cases h : 1 ≤ most
      · obtain ⟨g1, g2⟩ := hy1 h; exact ⟨y.toNat, by omega, by omega⟩
      · have := hy0 (by omega); exact ⟨0, by omega, by omega⟩
    refine ⟨⟨fun d hd => by cases hd; exact sc_src _ _ _ _ _, trivial⟩, .i .i64 (t : Int), ⟨rfl, trivial⟩, trivial, ?_⟩
    refine WPL.mem (by rfl) ?_
    have hSc : ∀ (k : Nat) (h : Int), Sc k (srcD len g c' h) := fun k h => sc_src k len g c' h
    refine WPL.run T false 4 tok (by rfl) (by exact byObl) ?_
    refine WPL.op (by rfl) (by rfl) (QOK.op (minD_ok rfl rfl rfl)) ?_
    obtain ⟨L, eL, hL1, hL2⟩ : ∃ L : Nat, (if (n : Int) - (x : Int) < 1 + (t : Int) then (n : Int) - (x : Int) else 1 + (t : Int)) = (L : Int) ∧ 1 ≤ L ∧ x + L ≤ n := by
      split
      · exact ⟨n - x, by omega, by omega, by omega⟩
      · exact ⟨1 + t, by omega, by omega, by omega⟩
    rw [eL]
    refine WPL.fin T false tok (by rfl) (by exact byObl) ?_
    refine WP.seq ?_
    refine WP.rs T false tok (by rfl) (by exact byObl) ?_
    refine WP.block ?_
    refine WP.loopH (⟨fun z : Nat × (Nat → Nat) => z.1 ≤ L ∧ Bt n z.2, fun z => [(0, .p 0 [] 0), (1, .i .i64 (n : Int)), (2, .i .i64 most), (6, .p 1 [] 0), (7, .p 2 [] 0), (8, .p 3 [] 0), (9, .i .i64 (x : Int)), (10, .i .i64 (L : Int)), (11, .i .i64 (z.1 : Int))], fun z => [.var (srcD len g c' h2), .var (pl fun _ => 0), .var (pl p), .var (pl z.2)], fun z => L - z.1⟩) ((0, q)) (⟨Nat.zero_le _, hq⟩) (Ghost.cut (Nat.le_refl _) (tauOf [0, 1, 2, 3]) _ _ (Taken.of [0, 1, 2, 3] (LeAll.cons (by rfl) (by first | with_reducible exact Root.Le.refl _ | with_reducible exact le_dead | (skip; done) | exact byLeq) (by exact byCon) (LeAll.cons (by rfl) (by first | with_reducible exact Root.Le.refl _ | with_reducible exact le_dead | (skip; done) | exact byLeq) (by exact byCon) (LeAll.cons (by rfl) (by first | with_reducible exact Root.Le.refl _ | with_reducible exact le_dead | (skip; done) | exact byLeq) (by exact byCon) (LeAll.cons (by rfl) (by first | with_reducible exact Root.Le.refl _ | with_reducible exact le_dead | (skip; done) | exact byLeq) (by exact byCon) (trivial))))) rfl rfl) (by exact bySlots)) ?_
    rintro ⟨j, q1⟩ ⟨hj, hq1⟩
    dsimp only at hj hq1
    dsimp only [Hd.at]
    refine WP.seq ?_
    refine WP.rs T false tok (by rfl) (by exact byObl) ?_
    refine WP.cond (by rfl) (fun hc => WP.skip ?_) (fun hc => WP.exit ?_)
    · have hj : j < L := by have := of_decide_eq_true hc; omega
      clear hc
      have hb0 : 0 ≤ ((j : Int) + 1).tmod (L : Int) := Int.tmod_nonneg _ (by omega)
      have hb1 : ((j : Int) + 1).tmod (L : Int) < L := Int.tmod_lt_of_pos _ (by omega)
      have hp1 := hp.lt ((x : Int) + (j : Int)).toNat
      have hp2 := hp.lt (x + j)
      have hp3 := hp.lt ((x : Int) + ((j : Int) + 1).tmod (L : Int)).toNat
      refine WP.seq (WP.block ?_)
      refine WP.da (by kernel_rfl) 14 (by kernel_rfl) ?_
      refine WA.takes T false tok [0, 1, 2, 3, 4, 5, 6, 7, 8, 9, 10] (f' := 4) (by kernel_rfl) (by rfl) (by rfl) (by rfl) (by exact byObl) (by rfl) (by rfl) ?_
      refine WA.takes T false tok [11, 12, 13] (f' := 1) (by kernel_rfl) (by rfl) (by rfl) (by rfl) (by exact byObl) (by rfl) (by rfl) ?_
      refine WA.tail (by rfl) (by rfl) (by kernel_rfl) ?_
      refine WPL.fin T false tok (by rfl) (by exact byObl) ?_
      refine noPan ?_
      refine WP.run T false tok (by rfl) (by exact byObl) ?_
      refine Again.next ((j + 1, up q1 (p ((x : Int) + (j : Int)).toNat) (p ((x : Int) + ((j : Int) + 1).tmod (L : Int)).toNat))) (Ghost.cut (Nat.le_refl _) (tauOf [0, 1, 2, 3]) _ _ (Taken.of [0, 1, 2, 3] (LeAll.cons (by rfl) (by first | with_reducible exact Root.Le.refl _ | with_reducible exact le_dead | (skip; done) | exact byLeq) (by exact byCon) (LeAll.cons (by rfl) (by first | with_reducible exact Root.Le.refl _ | with_reducible exact le_dead | (skip; done) | exact byLeq) (by exact byCon) (LeAll.cons (by rfl) (by first | with_reducible exact Root.Le.refl _ | with_reducible exact le_dead | (skip; done) | exact byLeq) (by exact byCon) (LeAll.cons (by rfl) (by first | with_reducible exact Root.Le.refl _ | with_reducible exact le_dead | (skip; done) | exact byLeq) (by exact byCon) (trivial))))) rfl rfl) (by exact bySlots)) (⟨by omega, hq1.up (by omega) hp3⟩) (by dsimp only; omega)
    · have hj : j = L := by have := of_decide_eq_false hc; omega
      subst hj
      clear hc
      refine WP.run T false tok (by rfl) (by exact byObl) ?_
      refine Again.next ((x + j, q1, c', h2)) (Ghost.cut (Nat.le_refl _) (tauOf [0, 1, 2, 3]) _ _ (Taken.of [0, 1, 2, 3] (LeAll.cons (by rfl) (by first | with_reducible exact Root.Le.refl _ | with_reducible exact le_dead | (skip; done) | exact byLeq) (by exact byCon) (LeAll.cons (by rfl) (by first | with_reducible exact Root.Le.refl _ | with_reducible exact le_dead | (skip; done) | exact byLeq) (by exact byCon) (LeAll.cons (by rfl) (by first | with_reducible exact Root.Le.refl _ | with_reducible exact le_dead | (skip; done) | exact byLeq) (by exact byCon) (LeAll.cons (by rfl) (by first | with_reducible exact Root.Le.refl _ | with_reducible exact le_dead | (skip; done) | exact byLeq) (by exact byCon) (trivial))))) rfl rfl) (by exact bySlots)) (⟨by omega, hq1, hc'⟩) (by dsimp only; omega)
  · refine WP.rs T false tok (by rfl) (by exact byObl) ?_
    exact WP.ret (Ends.newE [0] (⟨q, c, h1, rfl, hq, hcl, rfl⟩) (.inl rfl) (by rfl) (by exact byObl) (LeAll.cons (by rfl) (by first | with_reducible exact Root.Le.refl _ | with_reducible exact le_dead | (skip; done) | exact byLeq) (by exact byCon) (trivial)) rfl rfl (⟨rfl, sc_pl _ _⟩) (sc_pl _ _))

end Go.Proofs.Ytakapfgjdhliaaa

/- Stars, bands and the permutation that leads back: the program and the reference return the same. -/
namespace Go.Proofs.Ytakapfgjdhliaaa
open Go.RowKit DM
set_option linter.unusedSimpArgs false
set_option linter.unusedVariables false
set_option maxRecDepth 100000
set_option maxHeartbeats 1000000

theorem l01Star_fn (n : Nat) (h1 : 1 ≤ n) (hn : n ≤ 16) : FnP Try.prog 100 [.i .i64 n] (ds_ n (fillF (fun i => (i + 1) % n) n) (fillF (fun i => i) n)) := by
  refine FnS.into T tok Try.func100 (by rfl) rfl rfl rfl (by simp) ?_
  refine WP.rs T false tok (by rfl) (by exact byObl) ?_
  refine WP.rw ?_
  refine WPL.run T false 2 tok (by rfl) (by exact byObl) ?_
  refine WPL.call (l01Turn_fn n h1 hn) (by rfl) (by rfl) (by rfl) (by simp [Sc, sc_pl, sc_ds, pl_ne, ds_ne]) ?_
  refine WPL.run T false 1 tok (by rfl) (by exact byObl) ?_
  refine WPL.call (l01Same_fn n hn) (by rfl) (by rfl) (by rfl) (by simp [Sc, sc_pl, sc_ds, pl_ne, ds_ne]) ?_
  refine WPL.fin T false tok (by rfl) (by exact byObl) ?_
  exact WP.ret (Ends.val (by rfl) (by exact byObl) (by exact dsf_of rfl rfl rfl fun _ => rfl) (by exact sc_ds _ _ _ _))

/-! ### Bands -/
end Go.Proofs.Ytakapfgjdhliaaa

/- Queues: numbers that are reached by two permutations. -/
namespace Go.Proofs.Ytakapfgjdhliaaa
open Go.RowKit DM

/-- A row of bytes. -/
def bytesF (Q : List Nat) (j : Nat) : Dat := .i .u8 ((Q.getD j 0 : Nat) : Int)

theorem ap_bytes (Q : List Nat) (y : Nat) (z : Dat) (j : Nat) (hj : j < Q.length + 1) : bytesF (Q ++ [y]) j = apF Q.length (bytesF Q) 0 (fup (fun _ => z) 0 (.i .u8 ((y : Nat) : Int))) j := by
  unfold apF bytesF
  by_cases h : j < Q.length
  · rw [show Nat.blt j Q.length = true from by rw [Nat.blt_eq]; exact h]
    simp [List.getD_eq_getElem?_getD, List.getElem?_append_left h]
  · have e : j = Q.length := by omega
    subst e
    rw [show Nat.blt Q.length Q.length = false from by cases hh : Nat.blt Q.length Q.length with | false => rfl | true => rw [Nat.blt_eq] at hh; omega]
    simp [List.getD_eq_getElem?_getD, fup]

/-- One number more, if it is new. -/
def bst (y : Nat) (s : List Nat × (Nat → Bool)) : List Nat × (Nat → Bool) := bif s.2 y then s else (s.1 ++ [y], up s.2 y true)

theorem bst_new {y : Nat} {Q : List Nat} {met : Nat → Bool} (h : met y = false) : bst y (Q, met) = (Q ++ [y], up met y true) := by
  show (bif met y then _ else _) = _
  rw [h]; rfl
theorem bst_old {y : Nat} {Q : List Nat} {met : Nat → Bool} (h : met y = true) : bst y (Q, met) = (Q, met) := by
  show (bif met y then _ else _) = _
  rw [h]; rfl

/-- What the queue is after all that it leads to. -/
def brun (p q : Nat → Nat) : Nat → Nat → List Nat × (Nat → Bool) → List Nat × (Nat → Bool)
  | 0, _, s => s
  | k + 1, i, s => if i < s.1.length then brun p q k (i + 1) (bst (q (s.1.getD i 0)) (bst (p (s.1.getD i 0)) s)) else s

/-- How many rounds are left at most. -/
def bmu (i : Nat) (s : List Nat × (Nat → Bool)) : Nat := 2 * cntU 16 s.2 + s.1.length - i

structure BInv (n : Nat) (s : List Nat × (Nat → Bool)) : Prop where
  small : ∀ x ∈ s.1, x < n
  len : s.1.length + cntU 16 s.2 ≤ 16

theorem BInv.get {n : Nat} {s : List Nat × (Nat → Bool)} (h : BInv n s) {i : Nat} (hi : i < s.1.length) : s.1.getD i 0 < n := by
  rw [List.getD_eq_getElem?_getD, List.getElem?_eq_getElem hi]
  exact h.small _ (List.getElem_mem hi)

theorem cntU_up {met : Nat → Bool} {y : Nat} (hy : y < 16) (h : met y = false) : cntU 16 met = cntU 16 (up met y true) + 1 :=
  (cntU_set (i := y) (f := met) (g := up met y true) h (up_same _ _ _) (fun _ hj => up_ne _ _ hj) (n := 16)).1 hy

theorem BInv.bst {n : Nat} (hn : n ≤ 16) {s : List Nat × (Nat → Bool)} (h : BInv n s) {y : Nat} (hy : y < n) : BInv n (bst y s) := by
  unfold Go.Proofs.Ytakapfgjdhliaaa.bst
  cases hm : s.2 y with
  | true => exact h
  | false =>
    have hc := cntU_up (met := s.2) (y := y) (by omega) hm
    refine ⟨fun x hx => ?_, ?_⟩
    · simp only [cond_false, List.mem_append, List.mem_singleton] at hx
      rcases hx with hx | rfl
      · exact h.small x hx
      · exact hy
    · have := h.len
      simp only [cond_false, List.length_append, List.length_singleton]
      omega

theorem bmu_bst {n : Nat} (hn : n ≤ 16) {s : List Nat × (Nat → Bool)} {y : Nat} (hy : y < n) (i : Nat) (hi : i ≤ s.1.length) : bmu i (bst y s) ≤ bmu i s ∧ s.1.length ≤ (bst y s).1.length := by
  unfold bst bmu
  cases hm : s.2 y with
  | true => exact ⟨Nat.le_refl _, Nat.le_refl _⟩
  | false =>
    have hc := cntU_up (met := s.2) (y := y) (by omega) hm
    simp only [cond_false, List.length_append, List.length_singleton]
    constructor <;> omega

theorem bmu_round {n : Nat} (hn : n ≤ 16) {p q : Nat → Nat} (hp : ∀ i, i < n → p i < n) (hq : ∀ i, i < n → q i < n) {s : List Nat × (Nat → Bool)} (h : BInv n s) {i : Nat} (hi : i < s.1.length) :
    BInv n (bst (q (s.1.getD i 0)) (bst (p (s.1.getD i 0)) s)) ∧ bmu (i + 1) (bst (q (s.1.getD i 0)) (bst (p (s.1.getD i 0)) s)) < bmu i s := by
  have hx := h.get hi
  have h1 := h.bst hn (hp _ hx)
  have h2 := h1.bst hn (hq _ hx)
  obtain ⟨g1, g2⟩ := bmu_bst hn (s := s) (hp _ hx) i (by omega)
  obtain ⟨g3, g4⟩ := bmu_bst hn (s := bst (p (s.1.getD i 0)) s) (hq _ hx) i (by omega)
  refine ⟨h2, ?_⟩
  have : bmu (i + 1) (bst (q (s.1.getD i 0)) (bst (p (s.1.getD i 0)) s)) + 1 = bmu i (bst (q (s.1.getD i 0)) (bst (p (s.1.getD i 0)) s)) := by
    unfold bmu; omega
  omega

/-- More rounds tell the same. -/
theorem brun_more {n : Nat} (hn : n ≤ 16) {p q : Nat → Nat} (hp : ∀ i, i < n → p i < n) (hq : ∀ i, i < n → q i < n) : ∀ (k k' i : Nat) (s : List Nat × (Nat → Bool)), BInv n s → bmu i s ≤ k → bmu i s ≤ k' → brun p q k i s = brun p q k' i s
  | 0, 0, i, s, _, _, _ => rfl
  | 0, k' + 1, i, s, h, hk, _ => by
    simp only [brun]
    rw [if_neg (by unfold bmu at hk; omega)]
  | k + 1, 0, i, s, h, _, hk => by
    simp only [brun]
    rw [if_neg (by unfold bmu at hk; omega)]
  | k + 1, k' + 1, i, s, h, hk, hk' => by
    simp only [brun]
    split
    · rename_i hi
      obtain ⟨g1, g2⟩ := bmu_round hn hp hq h hi
      exact brun_more hn hp hq k k' (i + 1) _ g1 (by omega) (by omega)
    · rfl

def bres (p q : Nat → Nat) (i : Nat) (s : List Nat × (Nat → Bool)) : List Nat × (Nat → Bool) := brun p q (bmu i s) i s

theorem bres_step {n : Nat} (hn : n ≤ 16) {p q : Nat → Nat} (hp : ∀ i, i < n → p i < n) (hq : ∀ i, i < n → q i < n) {i : Nat} {s : List Nat × (Nat → Bool)} (h : BInv n s) (hi : i < s.1.length) :
    bres p q (i + 1) (bst (q (s.1.getD i 0)) (bst (p (s.1.getD i 0)) s)) = bres p q i s := by
  obtain ⟨g1, g2⟩ := bmu_round hn hp hq h hi
  unfold bres
  rw [show bmu i s = (bmu i s - 1) + 1 by omega]
  simp only [brun, if_pos hi]
  exact brun_more hn hp hq _ _ _ _ g1 (Nat.le_refl _) (by omega)

theorem bres_end {p q : Nat → Nat} {i : Nat} {s : List Nat × (Nat → Bool)} (hi : ¬ i < s.1.length) : bres p q i s = s := by
  unfold bres
  cases bmu i s with
  | zero => rfl
  | succ k => simp only [brun, if_neg hi]

/-- The beginning: 0 alone. -/
def b0 : List Nat × (Nat → Bool) := ([0], up (fun _ => false) 0 true)
theorem b0_inv {n : Nat} (h1 : 1 ≤ n) : BInv n b0 := ⟨fun x hx => by simp [b0] at hx; omega, by show 1 + cntU 16 _ ≤ 16; decide⟩

/-- All numbers that are reached from 0. -/
def bfs (p q : Nat → Nat) : List Nat := (bres p q 0 b0).1

end Go.Proofs.Ytakapfgjdhliaaa
