import Derived.Test.YtaafldclbdlgfaaL3
/- Blocks: the least equivalence that holds a pair and is kept by two maps; classes that are joined. -/
namespace Go.Proofs.Ytaafldclbdlgfaa
open Go.RowKit DM
set_option linter.unusedVariables false

/-- The least equivalence of x and y that b and w keep. -/
inductive Gen (b w : Nat → Nat) (x y : Nat) : Nat → Nat → Prop where
  | base : Gen b w x y x y
  | refl (i : Nat) : Gen b w x y i i
  | symm {i j : Nat} : Gen b w x y i j → Gen b w x y j i
  | trans {i j k : Nat} : Gen b w x y i j → Gen b w x y j k → Gen b w x y i k
  | stepB {i j : Nat} : Gen b w x y i j → Gen b w x y (b i) (b j)
  | stepW {i j : Nat} : Gen b w x y i j → Gen b w x y (w i) (w j)

/-- What classes and pairs still to be joined come to. -/
inductive Cls (f : Nat → Nat) (P : List (Nat × Nat)) : Nat → Nat → Prop where
  | cls {i j : Nat} : f i = f j → Cls f P i j
  | pend {i j : Nat} : (i, j) ∈ P → Cls f P i j
  | symm {i j : Nat} : Cls f P i j → Cls f P j i
  | trans {i j k : Nat} : Cls f P i j → Cls f P j k → Cls f P i k

theorem Cls.mono {f f' : Nat → Nat} {P P' : List (Nat × Nat)} (h1 : ∀ i j, f i = f j → Cls f' P' i j) (h2 : ∀ i j, (i, j) ∈ P → Cls f' P' i j) {i j : Nat} (h : Cls f P i j) : Cls f' P' i j := by
  induction h with
  | cls h => exact h1 _ _ h
  | pend h => exact h2 _ _ h
  | symm _ ih => exact .symm ih
  | trans _ _ h3 h4 => exact .trans h3 h4

theorem Cls.nil {f : Nat → Nat} {i j : Nat} (h : Cls f [] i j) : f i = f j := by
  induction h with
  | cls h => exact h
  | pend h => simp at h
  | symm _ ih => exact ih.symm
  | trans _ _ h3 h4 => exact h3.trans h4

/-- The classes of two numbers joined: those of one value get another one. -/
def joinF (f : Nat → Nat) (s t : Nat) : Nat → Nat := fun i => if f i = s then t else f i

theorem joinF_cls {f : Nat → Nat} {a b : Nat} {P : List (Nat × Nat)} {s t : Nat} (h : (s = f a ∧ t = f b) ∨ (s = f b ∧ t = f a)) : ∀ i j, f i = f j → Cls (joinF f s t) P i j := by
  intro i j h
  refine .cls ?_
  unfold joinF
  rw [h]

theorem joinF_pair {f : Nat → Nat} {a b s t : Nat} (h : (s = f a ∧ t = f b) ∨ (s = f b ∧ t = f a)) : joinF f s t a = joinF f s t b := by
  unfold joinF
  rcases h with ⟨rfl, rfl⟩ | ⟨rfl, rfl⟩
  · rw [if_pos rfl]; split <;> rfl
  · rw [if_pos rfl]; split <;> rfl

/-- The classes after a join are those that were, or led together by the pair. -/
theorem joinF_split {f : Nat → Nat} {a b s t : Nat} (h : (s = f a ∧ t = f b) ∨ (s = f b ∧ t = f a)) {i j : Nat} (e : joinF f s t i = joinF f s t j) : f i = f j ∨ (f i = f a ∧ f j = f b) ∨ (f i = f b ∧ f j = f a) := by
  unfold joinF at e
  by_cases h1 : f i = s <;> by_cases h2 : f j = s
  · exact .inl (h1.trans h2.symm)
  · rw [if_pos h1, if_neg h2] at e
    rcases h with ⟨h3, h4⟩ | ⟨h3, h4⟩
    · exact .inr (.inl ⟨h1.trans h3, by omega⟩)
    · exact .inr (.inr ⟨h1.trans h3, by omega⟩)
  · rw [if_neg h1, if_pos h2] at e
    rcases h with ⟨h3, h4⟩ | ⟨h3, h4⟩
    · exact .inr (.inr ⟨by omega, h2.trans h3⟩)
    · exact .inr (.inl ⟨by omega, h2.trans h3⟩)
  · rw [if_neg h1, if_neg h2] at e
    exact .inl e

/-- What holds while classes are joined; P are the pairs still to be looked at. -/
structure BlkInv (n : Nat) (b w : Nat → Nat) (x y : Nat) (f : Nat → Nat) (P : List (Nat × Nat)) : Prop where
  gen : ∀ i j, f i = f j → Gen b w x y i j
  pgen : ∀ i j, (i, j) ∈ P → Gen b w x y i j
  lt : ∀ i j, (i, j) ∈ P → i < n ∧ j < n
  base : Cls f P x y
  keepB : ∀ i j, f i = f j → Cls f P (b i) (b j)
  keepW : ∀ i j, f i = f j → Cls f P (w i) (w j)
  rep : ∀ i, i < n → f i < n ∧ f (f i) = f i
  out : ∀ i, n ≤ i → f i = i

theorem BlkInv.done {n : Nat} {b w : Nat → Nat} {x y : Nat} {f : Nat → Nat} (h : BlkInv n b w x y f []) (i j : Nat) : f i = f j ↔ Gen b w x y i j := by
  refine ⟨h.gen i j, fun g => ?_⟩
  induction g with
  | base => exact h.base.nil
  | refl => rfl
  | symm _ ih => exact ih.symm
  | trans _ _ h1 h2 => exact h1.trans h2
  | stepB _ ih => exact (h.keepB _ _ ih).nil
  | stepW _ ih => exact (h.keepW _ _ ih).nil

theorem BlkInv.start {n : Nat} {b w : Nat → Nat} {x y : Nat} (hx : x < n) (hy : y < n) : BlkInv n b w x y (fun i => i) [(x, y)] where
  gen := fun i j h => by
    have h : i = j := h
    subst h; exact .refl _
  pgen := fun i j h => by simp at h; obtain ⟨rfl, rfl⟩ := h; exact .base
  lt := fun i j h => by simp at h; obtain ⟨rfl, rfl⟩ := h; exact ⟨hx, hy⟩
  base := .pend (by simp)
  keepB := fun i j h => by
    have h : i = j := h
    subst h; exact .cls rfl
  keepW := fun i j h => by
    have h : i = j := h
    subst h; exact .cls rfl
  rep := fun i hi => ⟨hi, rfl⟩
  out := fun i _ => rfl

/-- The pairs may be told in another order. -/
theorem BlkInv.perm {n : Nat} {b w : Nat → Nat} {x y : Nat} {f : Nat → Nat} {P P' : List (Nat × Nat)} (h : BlkInv n b w x y f P) (hp : ∀ p, p ∈ P ↔ p ∈ P') : BlkInv n b w x y f P' where
  gen := h.gen
  pgen := fun i j hi => h.pgen i j ((hp _).2 hi)
  lt := fun i j hi => h.lt i j ((hp _).2 hi)
  base := h.base.mono (fun _ _ e => .cls e) (fun _ _ e => .pend ((hp _).1 e))
  keepB := fun i j e => (h.keepB i j e).mono (fun _ _ e => .cls e) (fun _ _ e => .pend ((hp _).1 e))
  keepW := fun i j e => (h.keepW i j e).mono (fun _ _ e => .cls e) (fun _ _ e => .pend ((hp _).1 e))
  rep := h.rep
  out := h.out

/-- A pair of one class is passed over. -/
theorem BlkInv.skip {n : Nat} {b w : Nat → Nat} {x y : Nat} {f : Nat → Nat} {P : List (Nat × Nat)} {i0 j0 : Nat} (h : BlkInv n b w x y f ((i0, j0) :: P)) (e : f i0 = f j0) : BlkInv n b w x y f P := by
  have key : ∀ i j, (i, j) ∈ (i0, j0) :: P → Cls f P i j := fun i j hi => by
    simp only [List.mem_cons, Prod.mk.injEq] at hi
    rcases hi with ⟨rfl, rfl⟩ | hi
    · exact .cls e
    · exact .pend hi
  exact ⟨h.gen, fun i j hi => h.pgen i j (List.mem_cons_of_mem _ hi), fun i j hi => h.lt i j (List.mem_cons_of_mem _ hi), h.base.mono (fun _ _ e => .cls e) key, fun i j e => (h.keepB i j e).mono (fun _ _ e => .cls e) key, fun i j e => (h.keepW i j e).mono (fun _ _ e => .cls e) key, h.rep, h.out⟩

/-- A pair of two classes joins them, and two more pairs are to be looked at. -/
theorem BlkInv.join {n : Nat} {b w : Nat → Nat} {x y : Nat} {f : Nat → Nat} {P : List (Nat × Nat)} {i0 j0 s t : Nat} (h : BlkInv n b w x y f ((i0, j0) :: P)) (hb : ∀ i, i < n → b i < n) (hw : ∀ i, i < n → w i < n) (hst : (s = f i0 ∧ t = f j0) ∨ (s = f j0 ∧ t = f i0)) :
    BlkInv n b w x y (joinF f s t) ((b i0, b j0) :: (w i0, w j0) :: P) := by
  obtain ⟨li, lj⟩ := h.lt i0 j0 (List.mem_cons_self ..)
  have g0 := h.pgen i0 j0 (List.mem_cons_self ..)
  have old : ∀ i j, (i, j) ∈ (i0, j0) :: P → Cls (joinF f s t) ((b i0, b j0) :: (w i0, w j0) :: P) i j := fun i j hi => by
    simp only [List.mem_cons, Prod.mk.injEq] at hi
    rcases hi with ⟨rfl, rfl⟩ | hi
    · exact .cls (joinF_pair hst)
    · exact .pend (List.mem_cons_of_mem _ (List.mem_cons_of_mem _ hi))
  have up : ∀ {i j}, Cls f ((i0, j0) :: P) i j → Cls (joinF f s t) ((b i0, b j0) :: (w i0, w j0) :: P) i j := fun {i j} c => c.mono (joinF_cls hst) old
  refine ⟨fun i j e => ?_, fun i j hi => ?_, fun i j hi => ?_, up h.base, fun i j e => ?_, fun i j e => ?_, fun i hi => ?_, fun i hi => ?_⟩
  · rcases joinF_split hst e with e | ⟨e1, e2⟩ | ⟨e1, e2⟩
    · exact h.gen i j e
    · exact .trans (h.gen _ _ e1) (.trans g0 (.symm (h.gen _ _ e2)))
    · exact .trans (h.gen _ _ e1) (.trans (.symm g0) (.symm (h.gen _ _ e2)))
  · simp only [List.mem_cons, Prod.mk.injEq] at hi
    rcases hi with ⟨rfl, rfl⟩ | ⟨rfl, rfl⟩ | hi
    · exact .stepB g0
    · exact .stepW g0
    · exact h.pgen i j (List.mem_cons_of_mem _ hi)
  · simp only [List.mem_cons, Prod.mk.injEq] at hi
    rcases hi with ⟨rfl, rfl⟩ | ⟨rfl, rfl⟩ | hi
    · exact ⟨hb _ li, hb _ lj⟩
    · exact ⟨hw _ li, hw _ lj⟩
    · exact h.lt i j (List.mem_cons_of_mem _ hi)
  · have p0 : Cls (joinF f s t) ((b i0, b j0) :: (w i0, w j0) :: P) (b i0) (b j0) := .pend (List.mem_cons_self ..)
    rcases joinF_split hst e with e | ⟨e1, e2⟩ | ⟨e1, e2⟩
    · exact up (h.keepB i j e)
    · exact .trans (up (h.keepB _ _ e1)) (.trans p0 (.symm (up (h.keepB _ _ e2))))
    · exact .trans (up (h.keepB _ _ e1)) (.trans (.symm p0) (.symm (up (h.keepB _ _ e2))))
  · have p0 : Cls (joinF f s t) ((b i0, b j0) :: (w i0, w j0) :: P) (w i0) (w j0) := .pend (List.mem_cons_of_mem _ (List.mem_cons_self ..))
    rcases joinF_split hst e with e | ⟨e1, e2⟩ | ⟨e1, e2⟩
    · exact up (h.keepW i j e)
    · exact .trans (up (h.keepW _ _ e1)) (.trans p0 (.symm (up (h.keepW _ _ e2))))
    · exact .trans (up (h.keepW _ _ e1)) (.trans (.symm p0) (.symm (up (h.keepW _ _ e2))))
  · obtain ⟨r1, r2⟩ := h.rep i hi
    have ri := h.rep i0 li
    have rj := h.rep j0 lj
    have ht : t < n ∧ f t = t := by
      rcases hst with ⟨_, rfl⟩ | ⟨_, rfl⟩
      · exact rj
      · exact ri
    unfold joinF
    by_cases c : f i = s
    · rw [if_pos c]
      refine ⟨ht.1, ?_⟩
      split
      · rfl
      · exact ht.2
    · rw [if_neg c, r2, if_neg c]
      exact ⟨r1, rfl⟩
  · have e := h.out i hi
    unfold joinF
    have r1 := (h.rep i0 li).1
    have r2 := (h.rep j0 lj).1
    rw [e, if_neg (by rcases hst with ⟨rfl, _⟩ | ⟨rfl, _⟩ <;> omega)]

/-! ### How many classes are left -/
def reps (n : Nat) (f : Nat → Nat) : Nat := cntU n fun i => decide (f i ≠ i)

theorem joinF_same {f : Nat → Nat} {s t : Nat} (h : s = t) : joinF f s t = f := by
  subst h
  funext i
  unfold joinF
  split
  · rename_i h; exact h.symm
  · rfl

theorem BlkInv.reps {n : Nat} {b w : Nat → Nat} {x y : Nat} {f : Nat → Nat} {P : List (Nat × Nat)} {i0 j0 s t : Nat} (h : BlkInv n b w x y f ((i0, j0) :: P)) (hst : (s = f i0 ∧ t = f j0) ∨ (s = f j0 ∧ t = f i0)) (hne : s ≠ t) : reps n f = reps n (joinF f s t) + 1 := by
  obtain ⟨li, lj⟩ := h.lt i0 j0 (List.mem_cons_self ..)
  have ri := h.rep i0 li
  have rj := h.rep j0 lj
  have hs : s < n ∧ f s = s := by
    rcases hst with ⟨rfl, _⟩ | ⟨rfl, _⟩
    · exact ri
    · exact rj
  have ht : t < n ∧ f t = t := by
    rcases hst with ⟨_, rfl⟩ | ⟨_, rfl⟩
    · exact rj
    · exact ri
  unfold Proofs.Ytaafldclbdlgfaa.reps
  refine (cntU_set (i := s) (f := fun i => decide (f i ≠ i)) (g := fun i => decide (joinF f s t i ≠ i)) ?_ ?_ ?_ (n := n)).1 hs.1
  · simp [hs.2]
  · simp only [joinF, hs.2, if_true, decide_eq_true_eq]; exact fun e => hne e.symm
  · intro j hj
    by_cases c : f j = s
    · have h1 : f j ≠ j := fun e => hj (e.symm.trans c)
      have h2 : t ≠ j := fun e => by subst e; exact hne (c.symm.trans ht.2)
      have h3 : joinF f s t j = t := by unfold joinF; rw [if_pos c]
      simp [h1, h2, h3]
    · have h3 : joinF f s t j = f j := by unfold joinF; rw [if_neg c]
      simp [h3]

theorem reps_le (n : Nat) (f : Nat → Nat) : reps n f ≤ n := by
  unfold reps
  have key : ∀ (g : Nat → Bool) (n : Nat), cntU n g ≤ n := by
    intro g n
    induction n with
    | zero => exact Nat.le_refl _
    | succ n ih =>
      simp only [cntU]
      cases g n <;> simp <;> omega
  exact key _ n

/-- A join that is half done. -/
def pj (f : Nat → Nat) (s t k : Nat) : Nat → Nat := fun j => if j < k then joinF f s t j else f j

theorem pj_zero (f : Nat → Nat) (s t : Nat) : pj f s t 0 = f := by funext j; simp [pj]
theorem pj_at (f : Nat → Nat) (s t k : Nat) : pj f s t k k = f k := by simp [pj]
theorem pj_hit {f : Nat → Nat} {s t k : Nat} (h : f k = s) : up (pj f s t k) k t = pj f s t (k + 1) := by
  funext j
  unfold up pj
  by_cases e : j = k
  · subst e; simp [joinF, h]
  · rw [if_neg e]
    by_cases e2 : j < k
    · simp [e2, show j < k + 1 by omega]
    · simp [e2, show ¬ j < k + 1 by omega]
theorem pj_miss {f : Nat → Nat} {s t k : Nat} (h : f k ≠ s) : pj f s t k = pj f s t (k + 1) := by
  funext j
  unfold pj
  by_cases e : j = k
  · subst e; simp [joinF, h]
  · by_cases e2 : j < k
    · simp [e2, show j < k + 1 by omega]
    · simp [e2, show ¬ j < k + 1 by omega]
theorem pj_lt {f : Nat → Nat} {s t k j : Nat} (h : j < k) : pj f s t k j = joinF f s t j := by simp [pj, h]

/-- The block. -/
noncomputable def blkL (n : Nat) (b w : Nat → Nat) (x y : Nat) : List Nat := (List.range n).filter fun i => @decide (Gen b w x y i x) (Classical.propDecidable _)

def fltL (f : Nat → Nat) (c k : Nat) : List Nat := (List.range k).filter fun i => decide (f i = c)
theorem flt_hit {f : Nat → Nat} {c k : Nat} (h : f k = c) : fltL f c (k + 1) = fltL f c k ++ [k] := by
  unfold fltL; rw [List.range_succ, List.filter_append]; simp [h]
theorem flt_miss {f : Nat → Nat} {c k : Nat} (h : f k ≠ c) : fltL f c (k + 1) = fltL f c k := by
  unfold fltL; rw [List.range_succ, List.filter_append]; simp [h]
theorem flt_len (f : Nat → Nat) (c k : Nat) : (fltL f c k).length ≤ k := by
  unfold fltL
  have := List.length_filter_le (fun i => decide (f i = c)) (List.range k)
  simpa using this

theorem BlkInv.list {n : Nat} {b w : Nat → Nat} {x y : Nat} {f : Nat → Nat} (h : BlkInv n b w x y f []) : fltL f (f x) n = blkL n b w x y := by
  unfold fltL blkL
  refine List.filter_congr fun i _ => ?_
  have := h.done i x
  by_cases c : f i = f x
  · simp [c, this.1 c]
  · have : ¬ Gen b w x y i x := fun g => c (this.2 g)
    simp [c, this]

theorem BlkInv.last {n : Nat} {b w : Nat → Nat} {x y : Nat} {f : Nat → Nat} {P : List (Nat × Nat)} {p : Nat × Nat} (h : BlkInv n b w x y f (P ++ [p])) : BlkInv n b w x y f (p :: P) := h.perm fun q => by simp; exact or_comm

/-- Rows of pairs. -/
def prI (p : Nat × Nat) : Nat → Dat := fup (fup (fun _ => .i .i64 0) 0 (.i .i64 (p.1 : Int))) 1 (.i .i64 (p.2 : Int))
def prF (P : List (Nat × Nat)) (j : Nat) : Dat := .ar 2 1 (prI (P.getD j (0, 0)))

theorem sc_prI (k : Nat) (p : Nat × Nat) (i : Nat) : Sc k (prI p i) := by
  unfold prI fup
  cases Nat.beq i 1
  · cases Nat.beq i 0 <;> trivial
  · trivial
theorem sc_prv (k : Nat) (p : Nat × Nat) : Sc k (.ar 2 1 (prI p)) := fun i _ => sc_prI k p i
theorem sc_prow (k n : Nat) (e : Go.TypeId) (P : List (Nat × Nat)) : Sc k (.ow e n 2 (prF P)) := fun i _ => sc_prv k _
theorem pl_prI (p : Nat × Nat) (i : Nat) : Pl (prI p i) := by
  unfold prI fup
  cases Nat.beq i 1
  · cases Nat.beq i 0 <;> trivial
  · trivial
theorem pl_prv (p : Nat × Nat) : Pl (.ar 2 1 (prI p)) := fun i _ => pl_prI p i

theorem ap_prs (l : List (Nat × Nat)) (y : Nat × Nat) (z : Nat → Dat) (j : Nat) (hj : j < l.length + 1) : prF (l ++ [y]) j = apF l.length (prF l) 0 (fup z 0 (.ar 2 1 (prI y))) j := by
  unfold apF prF
  by_cases h : j < l.length
  · rw [blt_true h, getD_snoc_lt l y _ h]; rfl
  · have e : j = l.length := by omega
    subst e
    rw [blt_false (Nat.lt_irrefl _), getD_snoc]
    simp [fup]

theorem ap_prs' {l : List (Nat × Nat)} {n : Nat} (hn : l.length = n) (y : Nat × Nat) (z : Nat → Dat) (j : Nat) (hj : j < n + 1) : prF (l ++ [y]) j = apF n (prF l) 0 (fup z 0 (.ar 2 1 (prI y))) j := by
  subst hn; exact ap_prs l y z j hj

def nmF (f : Nat → Nat) (j : Nat) : Dat := .i .i64 ((f j : Nat) : Int)

theorem nm_up (f : Nat → Nat) (k v : Nat) : nmF (up f k v) = fup (nmF f) k (.i .i64 ((v : Nat) : Int)) := by
  funext j
  unfold nmF up fup
  by_cases h : j = k
  · subst h; simp
  · rw [if_neg h, show Nat.beq j k = false from by cases e : Nat.beq j k with | false => rfl | true => exact absurd (Nat.eq_of_beq_eq_true e) h]; rfl

end Go.Proofs.Ytaafldclbdlgfaa
