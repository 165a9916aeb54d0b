import Derived.Test.YtakapfgjdhliaaaL3
/- Blocks: the least equivalence that holds a pair and is kept by two maps; classes that are joined. -/
namespace Go.Proofs.Ytakapfgjdhliaaa
open Go.RowKit DM
set_option linter.unusedVariables false

/-- The least equivalence of x and y that b and w keep. -/
inductive Gen (b w : Nat → Nat) (x y : Nat) : Nat → Nat → Prop where
  | base : Gen b w x y x y
  | refl (i : Nat) : Gen b w x y i i
  | symm {i j : Nat} : Gen b w x y i j → Gen b w x y j i
  | trans {i j k : Nat} : Gen b w x y i j → Gen b w x y j k → Gen b w x y i k
  | stepB {i j : Nat} : Gen b w x y i j → Gen b w x y (b i) (b j)
  | stepW {i j : Nat} : Gen b w x y i j → Gen b w x y (w i) (w j)

/-- What classes and pairs still to be joined come to. -/
inductive Cls (f : Nat → Nat) (P : List (Nat × Nat)) : Nat → Nat → Prop where
  | cls {i j : Nat} : f i = f j → Cls f P i j
  | pend {i j : Nat} : (i, j) ∈ P → Cls f P i j
  | symm {i j : Nat} : Cls f P i j → Cls f P j i
  | trans {i j k : Nat} : Cls f P i j → Cls f P j k → Cls f P i k

theorem Cls.mono {f f' : Nat → Nat} {P P' : List (Nat × Nat)} (h1 : ∀ i j, f i = f j → Cls f' P' i j) (h2 : ∀ i j, (i, j) ∈ P → Cls f' P' i j) {i j : Nat} (h : Cls f P i j) : Cls f' P' i j := by
  induction h with
  | cls h => exact h1 _ _ h
  | pend h => exact h2 _ _ h
  | symm _ ih => exact .symm ih
  | trans _ _ h3 h4 => exact .trans h3 h4

theorem Cls.nil {f : Nat → Nat} {i j : Nat} (h : Cls f [] i j) : f i = f j := by
  induction h with
  | cls h => exact h
  | pend h => simp at h
  | symm _ ih => exact ih.symm
  | trans _ _ h3 h4 => exact h3.trans h4

/-- What holds while classes are joined; P are the pairs still to be looked at. -/
structure BlkInv (n : Nat) (b w : Nat → Nat) (x y : Nat) (f : Nat → Nat) (P : List (Nat × Nat)) : Prop where
  gen : ∀ i j, f i = f j → Gen b w x y i j
  pgen : ∀ i j, (i, j) ∈ P → Gen b w x y i j
  lt : ∀ i j, (i, j) ∈ P → i < n ∧ j < n
  base : Cls f P x y
  keepB : ∀ i j, f i = f j → Cls f P (b i) (b j)
  keepW : ∀ i j, f i = f j → Cls f P (w i) (w j)
  rep : ∀ i, i < n → f i < n ∧ f (f i) = f i
  out : ∀ i, n ≤ i → f i = i

theorem BlkInv.done {n : Nat} {b w : Nat → Nat} {x y : Nat} {f : Nat → Nat} (h : BlkInv n b w x y f []) (i j : Nat) : f i = f j ↔ Gen b w x y i j := by
  refine ⟨h.gen i j, fun g => ?_⟩
  induction g with
  | base => exact h.base.nil
  | refl => rfl
  | symm _ ih => exact ih.symm
  | trans _ _ h1 h2 => exact h1.trans h2
  | stepB _ ih => exact (h.keepB _ _ ih).nil
  | stepW _ ih => exact (h.keepW _ _ ih).nil

/-- The pairs may be told in another order. -/
theorem BlkInv.perm {n : Nat} {b w : Nat → Nat} {x y : Nat} {f : Nat → Nat} {P P' : List (Nat × Nat)} (h : BlkInv n b w x y f P) (hp : ∀ p, p ∈ P ↔ p ∈ P') : BlkInv n b w x y f P' where
  gen := h.gen
  pgen := fun i j hi => h.pgen i j ((hp _).2 hi)
  lt := fun i j hi => h.lt i j ((hp _).2 hi)
  base := h.base.mono (fun _ _ e => .cls e) (fun _ _ e => .pend ((hp _).1 e))
  keepB := fun i j e => (h.keepB i j e).mono (fun _ _ e => .cls e) (fun _ _ e => .pend ((hp _).1 e))
  keepW := fun i j e => (h.keepW i j e).mono (fun _ _ e => .cls e) (fun _ _ e => .pend ((hp _).1 e))
  rep := h.rep
  out := h.out

/-- A pair of one class is passed over. -/
theorem BlkInv.skip {n : Nat} {b w : Nat → Nat} {x y : Nat} {f : Nat → Nat} {P : List (Nat × Nat)} {i0 j0 : Nat} (h : BlkInv n b w x y f ((i0, j0) :: P)) (e : f i0 = f j0) : BlkInv n b w x y f P := by
  have key : ∀ i j, (i, j) ∈ (i0, j0) :: P → Cls f P i j := fun i j hi => by
    simp only [List.mem_cons, Prod.mk.injEq] at hi
    rcases hi with ⟨rfl, rfl⟩ | hi
    · exact .cls e
    · exact .pend hi
  exact ⟨h.gen, fun i j hi => h.pgen i j (List.mem_cons_of_mem _ hi), fun i j hi => h.lt i j (List.mem_cons_of_mem _ hi), h.base.mono (fun _ _ e => .cls e) key, fun i j e => (h.keepB i j e).mono (fun _ _ e => .cls e) key, fun i j e => (h.keepW i j e).mono (fun _ _ e => .cls e) key, h.rep, h.out⟩

/-! ### How many classes are left -/
/-- The block. -/
noncomputable def blkL (n : Nat) (b w : Nat → Nat) (x y : Nat) : List Nat := (List.range n).filter fun i => @decide (Gen b w x y i x) (Classical.propDecidable _)

def fltL (f : Nat → Nat) (c k : Nat) : List Nat := (List.range k).filter fun i => decide (f i = c)
theorem BlkInv.list {n : Nat} {b w : Nat → Nat} {x y : Nat} {f : Nat → Nat} (h : BlkInv n b w x y f []) : fltL f (f x) n = blkL n b w x y := by
  unfold fltL blkL
  refine List.filter_congr fun i _ => ?_
  have := h.done i x
  by_cases c : f i = f x
  · simp [c, this.1 c]
  · have : ¬ Gen b w x y i x := fun g => c (this.2 g)
    simp [c, this]

theorem BlkInv.last {n : Nat} {b w : Nat → Nat} {x y : Nat} {f : Nat → Nat} {P : List (Nat × Nat)} {p : Nat × Nat} (h : BlkInv n b w x y f (P ++ [p])) : BlkInv n b w x y f (p :: P) := h.perm fun q => by simp; exact or_comm

/-- Rows of pairs. -/
def prI (p : Nat × Nat) : Nat → Dat := fup (fup (fun _ => .i .i64 0) 0 (.i .i64 (p.1 : Int))) 1 (.i .i64 (p.2 : Int))
def prF (P : List (Nat × Nat)) (j : Nat) : Dat := .ar 2 1 (prI (P.getD j (0, 0)))

theorem sc_prI (k : Nat) (p : Nat × Nat) (i : Nat) : Sc k (prI p i) := by
  unfold prI fup
  cases Nat.beq i 1
  · cases Nat.beq i 0 <;> trivial
  · trivial
theorem sc_prv (k : Nat) (p : Nat × Nat) : Sc k (.ar 2 1 (prI p)) := fun i _ => sc_prI k p i
theorem sc_prow (k n : Nat) (e : Go.TypeId) (P : List (Nat × Nat)) : Sc k (.ow e n 2 (prF P)) := fun i _ => sc_prv k _
theorem pl_prI (p : Nat × Nat) (i : Nat) : Pl (prI p i) := by
  unfold prI fup
  cases Nat.beq i 1
  · cases Nat.beq i 0 <;> trivial
  · trivial
theorem pl_prv (p : Nat × Nat) : Pl (.ar 2 1 (prI p)) := fun i _ => pl_prI p i

def nmF (f : Nat → Nat) (j : Nat) : Dat := .i .i64 ((f j : Nat) : Int)

theorem nm_up (f : Nat → Nat) (k v : Nat) : nmF (up f k v) = fup (nmF f) k (.i .i64 ((v : Nat) : Int)) := by
  funext j
  unfold nmF up fup
  by_cases h : j = k
  · subst h; simp
  · rw [if_neg h, show Nat.beq j k = false from by cases e : Nat.beq j k with | false => rfl | true => exact absurd (Nat.eq_of_beq_eq_true e) h]; rfl

end Go.Proofs.Ytakapfgjdhliaaa
