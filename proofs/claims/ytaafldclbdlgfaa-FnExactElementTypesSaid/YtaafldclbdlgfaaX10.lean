import Derived.Test.YtaafldclbdlgfaaL3
import Derived.Test.YtaafldclbdlgfaaX4
/- Blocks: the least equivalence that holds a pair and is kept by two maps; classes that are joined. -/
namespace Go.Proofs.Ytaafldclbdlgfaa
open Go.RowKit DM
set_option linter.unusedVariables false

/-- The least equivalence of x and y that b and w keep. -/
inductive Gen (b w : Nat → Nat) (x y : Nat) : Nat → Nat → Prop where
  | base : Gen b w x y x y
  | refl (i : Nat) : Gen b w x y i i
  | symm {i j : Nat} : Gen b w x y i j → Gen b w x y j i
  | trans {i j k : Nat} : Gen b w x y i j → Gen b w x y j k → Gen b w x y i k
  | stepB {i j : Nat} : Gen b w x y i j → Gen b w x y (b i) (b j)
  | stepW {i j : Nat} : Gen b w x y i j → Gen b w x y (w i) (w j)

/-- What classes and pairs still to be joined come to. -/
inductive Cls (f : Nat → Nat) (P : List (Nat × Nat)) : Nat → Nat → Prop where
  | cls {i j : Nat} : f i = f j → Cls f P i j
  | pend {i j : Nat} : (i, j) ∈ P → Cls f P i j
  | symm {i j : Nat} : Cls f P i j → Cls f P j i
  | trans {i j k : Nat} : Cls f P i j → Cls f P j k → Cls f P i k

theorem Cls.mono {f f' : Nat → Nat} {P P' : List (Nat × Nat)} (h1 : ∀ i j, f i = f j → Cls f' P' i j) (h2 : ∀ i j, (i, j) ∈ P → Cls f' P' i j) {i j : Nat} (h : Cls f P i j) : Cls f' P' i j := by
  induction h with
  | cls h => exact h1 _ _ h
  | pend h => exact h2 _ _ h
  | symm _ ih => exact .symm ih
  | trans _ _ h3 h4 => exact .trans h3 h4

theorem Cls.nil {f : Nat → Nat} {i j : Nat} (h : Cls f [] i j) : f i = f j := by
  induction h with
  | cls h => exact h
  | pend h => simp at h
  | symm _ ih => exact ih.symm
  | trans _ _ h3 h4 => exact h3.trans h4

/-- What holds while classes are joined; P are the pairs still to be looked at. -/
structure BlkInv (n : Nat) (b w : Nat → Nat) (x y : Nat) (f : Nat → Nat) (P : List (Nat × Nat)) : Prop where
  gen : ∀ i j, f i = f j → Gen b w x y i j
  pgen : ∀ i j, (i, j) ∈ P → Gen b w x y i j
  lt : ∀ i j, (i, j) ∈ P → i < n ∧ j < n
  base : Cls f P x y
  keepB : ∀ i j, f i = f j → Cls f P (b i) (b j)
  keepW : ∀ i j, f i = f j → Cls f P (w i) (w j)
  rep : ∀ i, i < n → f i < n ∧ f (f i) = f i
  out : ∀ i, n ≤ i → f i = i

theorem BlkInv.done {n : Nat} {b w : Nat → Nat} {x y : Nat} {f : Nat → Nat} (h : BlkInv n b w x y f []) (i j : Nat) : f i = f j ↔ Gen b w x y i j := by
  refine ⟨h.gen i j, fun g => ?_⟩
  induction g with
  | base => exact h.base.nil
  | refl => rfl
  | symm _ ih => exact ih.symm
  | trans _ _ h1 h2 => exact h1.trans h2
  | stepB _ ih => exact (h.keepB _ _ ih).nil
  | stepW _ ih => exact (h.keepW _ _ ih).nil

theorem BlkInv.start {n : Nat} {b w : Nat → Nat} {x y : Nat} (hx : x < n) (hy : y < n) : BlkInv n b w x y (fun i => i) [(x, y)] where
  gen := fun i j h => by
    have h : i = j := h
    subst h; exact .refl _
  pgen := fun i j h => by simp at h; obtain ⟨rfl, rfl⟩ := h; exact .base
  lt := fun i j h => by simp at h; obtain ⟨rfl, rfl⟩ := h; exact ⟨hx, hy⟩
  base := .pend (by simp)
  keepB := fun i j h => by
    have h : i = j := h
    subst h; exact .cls rfl
  keepW := fun i j h => by
    have h : i = j := h
    subst h; exact .cls rfl
  rep := fun i hi => ⟨hi, rfl⟩
  out := fun i _ => rfl

/-- The pairs may be told in another order. -/
theorem BlkInv.perm {n : Nat} {b w : Nat → Nat} {x y : Nat} {f : Nat → Nat} {P P' : List (Nat × Nat)} (h : BlkInv n b w x y f P) (hp : ∀ p, p ∈ P ↔ p ∈ P') : BlkInv n b w x y f P' where
  gen := h.gen
  pgen := fun i j hi => h.pgen i j ((hp _).2 hi)
  lt := fun i j hi => h.lt i j ((hp _).2 hi)
  base := h.base.mono (fun _ _ e => .cls e) (fun _ _ e => .pend ((hp _).1 e))
  keepB := fun i j e => (h.keepB i j e).mono (fun _ _ e => .cls e) (fun _ _ e => .pend ((hp _).1 e))
  keepW := fun i j e => (h.keepW i j e).mono (fun _ _ e => .cls e) (fun _ _ e => .pend ((hp _).1 e))
  rep := h.rep
  out := h.out

/-- A pair of one class is passed over. -/
theorem BlkInv.skip {n : Nat} {b w : Nat → Nat} {x y : Nat} {f : Nat → Nat} {P : List (Nat × Nat)} {i0 j0 : Nat} (h : BlkInv n b w x y f ((i0, j0) :: P)) (e : f i0 = f j0) : BlkInv n b w x y f P := by
  have key : ∀ i j, (i, j) ∈ (i0, j0) :: P → Cls f P i j := fun i j hi => by
    simp only [List.mem_cons, Prod.mk.injEq] at hi
    rcases hi with ⟨rfl, rfl⟩ | hi
    · exact .cls e
    · exact .pend hi
  exact ⟨h.gen, fun i j hi => h.pgen i j (List.mem_cons_of_mem _ hi), fun i j hi => h.lt i j (List.mem_cons_of_mem _ hi), h.base.mono (fun _ _ e => .cls e) key, fun i j e => (h.keepB i j e).mono (fun _ _ e => .cls e) key, fun i j e => (h.keepW i j e).mono (fun _ _ e => .cls e) key, h.rep, h.out⟩

/-! ### How many classes are left -/
/-- The block. -/
noncomputable def blkL (n : Nat) (b w : Nat → Nat) (x y : Nat) : List Nat := (List.range n).filter fun i => @decide (Gen b w x y i x) (Classical.propDecidable _)

def fltL (f : Nat → Nat) (c k : Nat) : List Nat := (List.range k).filter fun i => decide (f i = c)
theorem BlkInv.list {n : Nat} {b w : Nat → Nat} {x y : Nat} {f : Nat → Nat} (h : BlkInv n b w x y f []) : fltL f (f x) n = blkL n b w x y := by
  unfold fltL blkL
  refine List.filter_congr fun i _ => ?_
  have := h.done i x
  by_cases c : f i = f x
  · simp [c, this.1 c]
  · have : ¬ Gen b w x y i x := fun g => c (this.2 g)
    simp [c, this]

theorem BlkInv.last {n : Nat} {b w : Nat → Nat} {x y : Nat} {f : Nat → Nat} {P : List (Nat × Nat)} {p : Nat × Nat} (h : BlkInv n b w x y f (P ++ [p])) : BlkInv n b w x y f (p :: P) := h.perm fun q => by simp; exact or_comm

/-- Rows of pairs. -/
def prI (p : Nat × Nat) : Nat → Dat := fup (fup (fun _ => .i .i64 0) 0 (.i .i64 (p.1 : Int))) 1 (.i .i64 (p.2 : Int))
def prF (P : List (Nat × Nat)) (j : Nat) : Dat := .ar 2 1 (prI (P.getD j (0, 0)))

theorem sc_prI (k : Nat) (p : Nat × Nat) (i : Nat) : Sc k (prI p i) := by
  unfold prI fup
  cases Nat.beq i 1
  · cases Nat.beq i 0 <;> trivial
  · trivial
theorem sc_prv (k : Nat) (p : Nat × Nat) : Sc k (.ar 2 1 (prI p)) := fun i _ => sc_prI k p i
theorem sc_prow (k n : Nat) (e : Go.TypeId) (P : List (Nat × Nat)) : Sc k (.ow e n 2 (prF P)) := fun i _ => sc_prv k _
theorem pl_prI (p : Nat × Nat) (i : Nat) : Pl (prI p i) := by
  unfold prI fup
  cases Nat.beq i 1
  · cases Nat.beq i 0 <;> trivial
  · trivial
theorem pl_prv (p : Nat × Nat) : Pl (.ar 2 1 (prI p)) := fun i _ => pl_prI p i

def nmF (f : Nat → Nat) (j : Nat) : Dat := .i .i64 ((f j : Nat) : Int)

theorem nm_up (f : Nat → Nat) (k v : Nat) : nmF (up f k v) = fup (nmF f) k (.i .i64 ((v : Nat) : Int)) := by
  funext j
  unfold nmF up fup
  by_cases h : j = k
  · subst h; simp
  · rw [if_neg h, show Nat.beq j k = false from by cases e : Nat.beq j k with | false => rfl | true => exact absurd (Nat.eq_of_beq_eq_true e) h]; rfl

end Go.Proofs.Ytaafldclbdlgfaa

/- Cycles: both sides. -/
namespace Go.Proofs.Ytaafldclbdlgfaa
open Go.RowKit DM
set_option linter.unusedSimpArgs false
set_option linter.unusedVariables false
set_option maxRecDepth 100000
set_option maxHeartbeats 1000000

theorem l01Cycles_fn (p : Nat → Nat) (n : Nat) (hn : n ≤ 16) (hp : ∀ i, i < n → p i < n) : FnS Try.prog 62 [pl p, .i .i64 n] [] (fun r m' => r = .sl 0 0 (cycs p n).length 1 ∧ m' = [.row 34 (cycs p n).length 1 (rowsF (cycs p n))]) := by
  refine FnS.intoN T tok Try.func62 (by rfl) rfl rfl rfl (by simp) ?_
  refine WP.rs T false tok (by rfl) (by exact byObl) ?_
  refine WP.rs T false tok (by rfl) (by exact byObl) ?_
  refine WP.seq ?_
  refine WP.rs T false tok (by rfl) (by exact byObl) ?_
  refine WP.block ?_
  refine WP.loopH (⟨fun x : Nat × List (List Nat) × (Nat → Bool) => x.1 ≤ n ∧ x.2 = cyTo p x.1, fun x => [(1, .i .i64 n), (2, .p 0 [] 0), (5, .sl 2 0 x.2.1.length 1), (6, .p 1 [] 0), (7, .i .i64 (x.1 : Int))], fun x => [.var (pl p), .var (bl x.2.2), .row 34 x.2.1.length 1 (rowsF x.2.1)], fun x => n - x.1⟩) ((0, [], fun _ => false)) (⟨Nat.zero_le _, rfl⟩) (Ghost.cut (Nat.le_refl _) (tauOf [0, 2, 1]) _ _ (Taken.of [0, 2, 1] (LeAll.cons (by rfl) (by first | with_reducible exact Root.Le.refl _ | with_reducible exact le_dead | (exact le_row (Nat.le_refl _) (fun j hj => absurd hj (Nat.not_lt_zero _))) | exact byLeq) (by exact byCon) (LeAll.cons (by rfl) (by first | with_reducible exact Root.Le.refl _ | with_reducible exact le_dead | (exact le_row (Nat.le_refl _) (fun j hj => absurd hj (Nat.not_lt_zero _))) | exact byLeq) (by exact byCon) (LeAll.cons (by rfl) (by first | with_reducible exact Root.Le.refl _ | with_reducible exact le_dead | (exact le_row (Nat.le_refl _) (fun j hj => absurd hj (Nat.not_lt_zero _))) | exact byLeq) (by exact byCon) (trivial)))) rfl rfl) (by exact bySlots)) ?_
  rintro ⟨i, L, M⟩ ⟨hi, hT⟩
  have hlen := cyTo_len p i
  dsimp only at hi hT
  rw [← hT] at hlen
  simp only at hlen
  dsimp only [Hd.at]
  refine WP.seq ?_
  refine WP.rs T false tok (by rfl) (by exact byObl) ?_
  refine WP.cond (by rfl) (fun hc => WP.skip ?_) (fun hc => WP.exit ?_)
  · have hi : i < n := by have := of_decide_eq_true hc; omega
    clear hc
    refine WP.seq (WP.block ?_)
    refine WP.rs T false tok (by rfl) (by exact byObl) ?_
    refine WP.seq ?_
    refine WP.rs T false tok (by rfl) (by exact byObl) ?_
    refine WP.block ?_
    refine WP.loopH (⟨fun x : Nat × List Nat × (Nat → Bool) => CInv n x.1 x.2.1 x.2.2 ∧ cyc p x.1 x.2.1 x.2.2 = cyc p i [] M, fun x => [(1, .i .i64 n), (2, .p 0 [] 0), (5, .sl 2 0 L.length 1), (6, .p 1 [] 0), (7, .i .i64 (i : Int)), (8, .sl 3 0 x.2.1.length 1), (9, .i .i64 (x.1 : Int))], fun x => [.var (pl p), .var (bl x.2.2), .row 34 L.length 1 (rowsF L), .row 2 x.2.1.length 1 (numsF x.2.1)], fun x => cntU 16 x.2.2⟩) ((i, [], M)) (⟨⟨by simp, hi, by have := cntU_le 16 M; simpa using this⟩, rfl⟩) (Ghost.cut (Nat.le_refl _) (tauOf [0, 1, 2, 3]) _ _ (Taken.of [0, 1, 2, 3] (LeAll.cons (by rfl) (by first | with_reducible exact Root.Le.refl _ | with_reducible exact le_dead | (exact le_row (Nat.le_refl _) (fun j hj => absurd hj (Nat.not_lt_zero _))) | exact byLeq) (by exact byCon) (LeAll.cons (by rfl) (by first | with_reducible exact Root.Le.refl _ | with_reducible exact le_dead | (exact le_row (Nat.le_refl _) (fun j hj => absurd hj (Nat.not_lt_zero _))) | exact byLeq) (by exact byCon) (LeAll.cons (by rfl) (by first | with_reducible exact Root.Le.refl _ | with_reducible exact le_dead | (exact le_row (Nat.le_refl _) (fun j hj => absurd hj (Nat.not_lt_zero _))) | exact byLeq) (by exact byCon) (LeAll.cons (by rfl) (by first | with_reducible exact Root.Le.refl _ | with_reducible exact le_dead | (exact le_row (Nat.le_refl _) (fun j hj => absurd hj (Nat.not_lt_zero _))) | exact byLeq) (by exact byCon) (trivial))))) rfl rfl) (by exact bySlots)) ?_
    rintro ⟨k, l, mt⟩ ⟨hI, hF⟩
    simp only at hI hF
    dsimp only [Hd.at]
    have hk16 : k < 16 := by have := hI.here; omega
    have hl16 : l.length ≤ 16 := by have := hI.len; omega
    have hpk := hp _ hI.here
    refine WP.seq ?_
    refine WP.rs T false tok (by rfl) (by exact byObl) ?_
    refine WP.cond (by rfl) (fun hc => WP.skip ?_) (fun hc => WP.exit ?_)
    · have hm : mt k = false := by simpa using hc
      clear hc
      have hI' := hI.step hn hp hm
      have hc' := cyc_new (p := p) (l := l) hk16 hm
      have hcu := cntU_up (met := mt) hk16 hm
      refine WP.seq (WP.block ?_)
      refine WP.rs T false tok (by rfl) (by exact byObl) ?_
      refine WP.run T false tok (by rfl) (by exact byObl) ?_
      refine WP.run T false tok (by rfl) (by exact byObl) ?_
      refine Again.next ((p k, l ++ [k], up mt k true)) (Ghost.cut (Nat.le_refl _) (tauOf [0, 1, 2, 5]) _ _ (Taken.of [0, 1, 2, 5] (LeAll.cons (by rfl) (by first | with_reducible exact Root.Le.refl _ | with_reducible exact le_dead | (exact le_row (by simp) (fun j hj => ap_nums l k _ j (by simpa using hj))) | exact byLeq) (by exact byCon) (LeAll.cons (by rfl) (by first | with_reducible exact Root.Le.refl _ | with_reducible exact le_dead | (exact le_row (by simp) (fun j hj => ap_nums l k _ j (by simpa using hj))) | exact byLeq) (by exact byCon) (LeAll.cons (by rfl) (by first | with_reducible exact Root.Le.refl _ | with_reducible exact le_dead | (exact le_row (by simp) (fun j hj => ap_nums l k _ j (by simpa using hj))) | exact byLeq) (by exact byCon) (LeAll.cons (by rfl) (by first | with_reducible exact Root.Le.refl _ | with_reducible exact le_dead | (exact le_row (by simp) (fun j hj => ap_nums l k _ j (by simpa using hj))) | exact byLeq) (by exact byCon) (trivial))))) rfl rfl) (by exact bySlots)) (⟨hI', hc'.symm.trans hF⟩) (by dsimp only; omega)
    · have hm : mt k = true := by simpa using hc
      clear hc
      rw [cyc_old hm] at hF
      refine WP.rs T false tok (by rfl) (by exact byObl) ?_
      cases hMi : M i
      · have hl1 : 1 ≤ l.length := by
          have := cyc_pos (p := p) (k := i) (by omega) hMi
          rw [← hF] at this; exact this
        have hn1 : cyTo p (i + 1) = (L ++ [l], mt) := by rw [cyTo_new (by rw [← hT]; exact hMi), ← hT]; simp only; rw [← hF]
        refine WP.cond (by rfl) (fun h => ?_) (fun h => WP.skip ?_)
        · clear h
          refine WP.run T false tok (by rfl) (by exact byObl) ?_
          refine WP.run T false tok (by rfl) (by exact byObl) ?_
          refine Again.step (Ghost.giveLast 5 3 (by rfl) rfl rfl (by rfl) (by rfl) (Nat.le_refl _)) ?_
          refine Again.next ((i + 1, L ++ [l], mt)) (Ghost.cut (Nat.le_refl _) (tauOf [0, 1, 5]) _ _ (Taken.of [0, 1, 5] (LeAll.cons (by rfl) (by first | with_reducible exact Root.Le.refl _ | with_reducible exact le_dead | (exact le_row (by simp) (fun j hj => ap_rows L l _ j (by simpa using hj))) | exact byLeq) (by exact byCon) (LeAll.cons (by rfl) (by first | with_reducible exact Root.Le.refl _ | with_reducible exact le_dead | (exact le_row (by simp) (fun j hj => ap_rows L l _ j (by simpa using hj))) | exact byLeq) (by exact byCon) (LeAll.cons (by rfl) (by first | with_reducible exact Root.Le.refl _ | with_reducible exact le_dead | (exact le_row (by simp) (fun j hj => ap_rows L l _ j (by simpa using hj))) | exact byLeq) (by exact byCon) (trivial)))) rfl rfl) (by exact bySlots)) (⟨hi, hn1.symm⟩) (by dsimp only; omega)
        · have := of_decide_eq_false h; omega
      · rw [cyc_old hMi] at hF
        cases hF
        refine WP.cond (by rfl) (fun h => ?_) (fun h => WP.skip ?_)
        · have := of_decide_eq_true h; simp at this
        · have hn1 : cyTo p (i + 1) = (L, M) := by rw [cyTo_old (by rw [← hT]; exact hMi), ← hT]
          refine WP.run T false tok (by rfl) (by exact byObl) ?_
          refine Again.next ((i + 1, L, M)) (Ghost.cut (Nat.le_refl _) (tauOf [0, 1, 2]) _ _ (Taken.of [0, 1, 2] (LeAll.cons (by rfl) (by first | with_reducible exact Root.Le.refl _ | with_reducible exact le_dead | (skip; done) | exact byLeq) (by exact byCon) (LeAll.cons (by rfl) (by first | with_reducible exact Root.Le.refl _ | with_reducible exact le_dead | (skip; done) | exact byLeq) (by exact byCon) (LeAll.cons (by rfl) (by first | with_reducible exact Root.Le.refl _ | with_reducible exact le_dead | (skip; done) | exact byLeq) (by exact byCon) (trivial)))) rfl rfl) (by exact bySlots)) (⟨hi, hn1.symm⟩) (by dsimp only; omega)
  · have hi : i = n := by have := of_decide_eq_false hc; omega
    subst hi
    have hc' : cycs p i = L := by unfold cycs; rw [← hT]
    rw [hc']
    refine WP.rs T false tok (by rfl) (by exact byObl) ?_
    exact WP.ret (Ends.new [2] (by rfl) (by exact byObl) (LeAll.cons (by rfl) (by first | with_reducible exact Root.Le.refl _ | with_reducible exact le_dead | (skip; done) | exact byLeq) (by exact byCon) (trivial)) rfl rfl (rfl) (sc_sl rfl))

theorem cycles_fn (p : Nat → Nat) (n : Nat) (hn : n ≤ 16) (hp : ∀ i, i < n → p i < n) : FnS Try.prog 66 [pl p, .i .i64 n] [] (fun r m' => r = .sl 0 0 (cycs p n).length 1 ∧ m' = [.row 34 (cycs p n).length 1 (rowsF (cycs p n))]) := by
  refine FnS.intoN T tok Try.func66 (by rfl) rfl rfl rfl (by simp) ?_
  refine WP.rs T false tok (by rfl) (by exact byObl) ?_
  refine WP.rs T false tok (by rfl) (by exact byObl) ?_
  refine WP.rs T false tok (by rfl) (by exact byObl) ?_
  refine WP.seq ?_
  refine WP.rs T false tok (by rfl) (by exact byObl) ?_
  refine WP.block ?_
  refine WP.loopH (⟨fun x : Nat × List (List Nat) × (Nat → Bool) => x.1 ≤ n ∧ x.2 = cyTo p x.1, fun x => [(2, .p 0 [] 0), (5, .sl 2 0 x.2.1.length 1), (6, .p 1 [] 0), (12, .i .i64 n), (13, .i .i64 (x.1 : Int))], fun x => [.var (pl p), .var (bl x.2.2), .row 34 x.2.1.length 1 (rowsF x.2.1)], fun x => n - x.1⟩) ((0, [], fun _ => false)) (⟨Nat.zero_le _, rfl⟩) (Ghost.cut (Nat.le_refl _) (tauOf [0, 2, 1]) _ _ (Taken.of [0, 2, 1] (LeAll.cons (by rfl) (by first | with_reducible exact Root.Le.refl _ | with_reducible exact le_dead | (exact le_row (Nat.le_refl _) (fun j hj => absurd hj (Nat.not_lt_zero _))) | exact byLeq) (by exact byCon) (LeAll.cons (by rfl) (by first | with_reducible exact Root.Le.refl _ | with_reducible exact le_dead | (exact le_row (Nat.le_refl _) (fun j hj => absurd hj (Nat.not_lt_zero _))) | exact byLeq) (by exact byCon) (LeAll.cons (by rfl) (by first | with_reducible exact Root.Le.refl _ | with_reducible exact le_dead | (exact le_row (Nat.le_refl _) (fun j hj => absurd hj (Nat.not_lt_zero _))) | exact byLeq) (by exact byCon) (trivial)))) rfl rfl) (by exact bySlots)) ?_
  rintro ⟨i, L, M⟩ ⟨hi, hT⟩
  have hlen := cyTo_len p i
  dsimp only at hi hT
  rw [← hT] at hlen
  simp only at hlen
  dsimp only [Hd.at]
  refine WP.rs T false tok (by rfl) (by exact byObl) ?_
  refine WP.seq ?_
  refine WP.cond (by rfl) (fun hc => WP.skip ?_) (fun hc => WP.exit ?_)
  · have hi : i < n := by have := of_decide_eq_true hc; omega
    have hi16 : i < 16 := by omega
    clear hc
    refine WP.seq (WP.block ?_)
    refine WP.rs T false tok (by rfl) (by exact byObl) ?_
    refine WP.seq ?_
    refine WP.rs T false tok (by rfl) (by exact byObl) ?_
    cases hMi : M i
    · refine WP.cond (by rfl) (fun h => ?_) (fun h => WP.skip ?_)
      · have h : M i = true := h; rw [hMi] at h; cases h
      clear h
      refine WP.rs T false tok (by rfl) (by exact byObl) ?_
      refine WP.seq ?_
      refine WP.rs T false tok (by rfl) (by exact byObl) ?_
      refine WP.block ?_
      refine WP.loopH (⟨fun x : Nat × List Nat × (Nat → Bool) => CInv n x.1 x.2.1 x.2.2 ∧ cyc p x.1 x.2.1 x.2.2 = cyc p i [] M, fun x => [(2, .p 0 [] 0), (5, .sl 2 0 L.length 1), (6, .p 1 [] 0), (12, .i .i64 n), (13, .i .i64 (i : Int)), (8, .sl 3 0 x.2.1.length 1), (9, .i .i64 (x.1 : Int))], fun x => [.var (pl p), .var (bl x.2.2), .row 34 L.length 1 (rowsF L), .row 2 x.2.1.length 1 (numsF x.2.1)], fun x => cntU 16 x.2.2⟩) ((i, [], M)) (⟨⟨by simp, hi, by have := cntU_le 16 M; simpa using this⟩, rfl⟩) (Ghost.cut (Nat.le_refl _) (tauOf [0, 1, 2, 3]) _ _ (Taken.of [0, 1, 2, 3] (LeAll.cons (by rfl) (by first | with_reducible exact Root.Le.refl _ | with_reducible exact le_dead | (exact le_row (Nat.le_refl _) (fun j hj => absurd hj (Nat.not_lt_zero _))) | exact byLeq) (by exact byCon) (LeAll.cons (by rfl) (by first | with_reducible exact Root.Le.refl _ | with_reducible exact le_dead | (exact le_row (Nat.le_refl _) (fun j hj => absurd hj (Nat.not_lt_zero _))) | exact byLeq) (by exact byCon) (LeAll.cons (by rfl) (by first | with_reducible exact Root.Le.refl _ | with_reducible exact le_dead | (exact le_row (Nat.le_refl _) (fun j hj => absurd hj (Nat.not_lt_zero _))) | exact byLeq) (by exact byCon) (LeAll.cons (by rfl) (by first | with_reducible exact Root.Le.refl _ | with_reducible exact le_dead | (exact le_row (Nat.le_refl _) (fun j hj => absurd hj (Nat.not_lt_zero _))) | exact byLeq) (by exact byCon) (trivial))))) rfl rfl) (by exact bySlots)) ?_
      rintro ⟨k, l, mt⟩ ⟨hI, hF⟩
      simp only at hI hF
      dsimp only [Hd.at]
      have hk16 : k < 16 := by have := hI.here; omega
      have hl16 : l.length ≤ 16 := by have := hI.len; omega
      have hpk := hp _ hI.here
      refine WP.seq ?_
      refine WP.rs T false tok (by rfl) (by exact byObl) ?_
      refine WP.cond (by rfl) (fun hc => WP.skip ?_) (fun hc => WP.exit ?_)
      · have hm : mt k = false := by simpa using hc
        clear hc
        have hI' := hI.step hn hp hm
        have hc' := cyc_new (p := p) (l := l) hk16 hm
        have hcu := cntU_up (met := mt) hk16 hm
        refine WP.seq (WP.block ?_)
        refine WP.rs T false tok (by rfl) (by exact byObl) ?_
        refine WP.run T false tok (by rfl) (by exact byObl) ?_
        refine WP.run T false tok (by rfl) (by exact byObl) ?_
        refine Again.next ((p k, l ++ [k], up mt k true)) (Ghost.cut (Nat.le_refl _) (tauOf [0, 1, 2, 5]) _ _ (Taken.of [0, 1, 2, 5] (LeAll.cons (by rfl) (by first | with_reducible exact Root.Le.refl _ | with_reducible exact le_dead | (exact le_row (by simp) (fun j hj => ap_nums l k _ j (by simpa using hj))) | exact byLeq) (by exact byCon) (LeAll.cons (by rfl) (by first | with_reducible exact Root.Le.refl _ | with_reducible exact le_dead | (exact le_row (by simp) (fun j hj => ap_nums l k _ j (by simpa using hj))) | exact byLeq) (by exact byCon) (LeAll.cons (by rfl) (by first | with_reducible exact Root.Le.refl _ | with_reducible exact le_dead | (exact le_row (by simp) (fun j hj => ap_nums l k _ j (by simpa using hj))) | exact byLeq) (by exact byCon) (LeAll.cons (by rfl) (by first | with_reducible exact Root.Le.refl _ | with_reducible exact le_dead | (exact le_row (by simp) (fun j hj => ap_nums l k _ j (by simpa using hj))) | exact byLeq) (by exact byCon) (trivial))))) rfl rfl) (by exact bySlots)) (⟨hI', hc'.symm.trans hF⟩) (by dsimp only; omega)
      · have hm : mt k = true := by simpa using hc
        clear hc
        rw [cyc_old hm] at hF
        have hn1 : cyTo p (i + 1) = (L ++ [l], mt) := by rw [cyTo_new (by rw [← hT]; exact hMi), ← hT]; simp only; rw [← hF]
        refine WP.run T false tok (by rfl) (by exact byObl) ?_
        refine WP.run T false tok (by rfl) (by exact byObl) ?_
        refine Again.step (Ghost.giveLast 5 3 (by rfl) rfl rfl (by rfl) (by rfl) (Nat.le_refl _)) ?_
        refine Again.next ((i + 1, L ++ [l], mt)) (Ghost.cut (Nat.le_refl _) (tauOf [0, 1, 5]) _ _ (Taken.of [0, 1, 5] (LeAll.cons (by rfl) (by first | with_reducible exact Root.Le.refl _ | with_reducible exact le_dead | (exact le_row (by simp) (fun j hj => ap_rows L l _ j (by simpa using hj))) | exact byLeq) (by exact byCon) (LeAll.cons (by rfl) (by first | with_reducible exact Root.Le.refl _ | with_reducible exact le_dead | (exact le_row (by simp) (fun j hj => ap_rows L l _ j (by simpa using hj))) | exact byLeq) (by exact byCon) (LeAll.cons (by rfl) (by first | with_reducible exact Root.Le.refl _ | with_reducible exact le_dead | (exact le_row (by simp) (fun j hj => ap_rows L l _ j (by simpa using hj))) | exact byLeq) (by exact byCon) (trivial)))) rfl rfl) (by exact bySlots)) (⟨hi, hn1.symm⟩) (by dsimp only; omega)
    · refine WP.cond (by rfl) (fun h => ?_) (fun h => WP.skip ?_)
      · refine WP.exit ?_
        have hn1 : cyTo p (i + 1) = (L, M) := by rw [cyTo_old (by rw [← hT]; exact hMi), ← hT]
        refine WP.run T false tok (by rfl) (by exact byObl) ?_
        refine Again.next ((i + 1, L, M)) (Ghost.cut (Nat.le_refl _) (tauOf [0, 1, 2]) _ _ (Taken.of [0, 1, 2] (LeAll.cons (by rfl) (by first | with_reducible exact Root.Le.refl _ | with_reducible exact le_dead | (skip; done) | exact byLeq) (by exact byCon) (LeAll.cons (by rfl) (by first | with_reducible exact Root.Le.refl _ | with_reducible exact le_dead | (skip; done) | exact byLeq) (by exact byCon) (LeAll.cons (by rfl) (by first | with_reducible exact Root.Le.refl _ | with_reducible exact le_dead | (skip; done) | exact byLeq) (by exact byCon) (trivial)))) rfl rfl) (by exact bySlots)) (⟨hi, hn1.symm⟩) (by dsimp only; omega)
      · have h : M i = false := h; rw [hMi] at h; cases h
  · have hi : i = n := by have := of_decide_eq_false hc; omega
    subst hi
    have hc' : cycs p i = L := by unfold cycs; rw [← hT]
    rw [hc']
    refine WP.rs T false tok (by rfl) (by exact byObl) ?_
    exact WP.ret (Ends.new [2] (by rfl) (by exact byObl) (LeAll.cons (by rfl) (by first | with_reducible exact Root.Le.refl _ | with_reducible exact le_dead | (skip; done) | exact byLeq) (by exact byCon) (trivial)) rfl rfl (rfl) (sc_sl rfl))

end Go.Proofs.Ytaafldclbdlgfaa
