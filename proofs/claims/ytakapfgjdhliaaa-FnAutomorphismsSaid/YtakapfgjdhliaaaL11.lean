import Derived.Test.YtakapfgjdhliaaaX12
import Derived.Test.YtakapfgjdhliaaaX34
/- Namings: queues from any number, on plain data. -/
namespace Go.Proofs.Ytakapfgjdhliaaa
open Go.RowKit DM

/-- The beginning: x alone. -/
def bx (x : Nat) : List Nat × (Nat → Bool) := ([x], up (fun _ => false) x true)
theorem bx_inv {n x : Nat} (hx : x < n) (hn : n ≤ 16) : BInv n (bx x) := ⟨fun y hy => by simp [bx] at hy; omega, by
  have h1 := cntU_up (met := fun _ => false) (y := x) (by omega) rfl
  have h2 := cntU_le 16 (fun _ => false)
  show 1 + cntU 16 (up (fun _ => false) x true) ≤ 16
  omega⟩

/-- All numbers that are reached from x, in the order of their names. -/
def bfsF (p q : Nat → Nat) (x : Nat) : List Nat := (bres p q 0 (bx x)).1

theorem bst_pre (y : Nat) (s : List Nat × (Nat → Bool)) : s.1 <+: (bst y s).1 := by
  unfold bst
  cases s.2 y
  · exact List.prefix_append _ _
  · exact List.prefix_refl _

theorem brun_pre (p q : Nat → Nat) : ∀ (k i : Nat) (s : List Nat × (Nat → Bool)), s.1 <+: (brun p q k i s).1
  | 0, _, _ => List.prefix_refl _
  | k + 1, i, s => by
    simp only [brun]
    split
    · exact ((bst_pre _ s).trans (bst_pre _ _)).trans (brun_pre p q k (i + 1) _)
    · exact List.prefix_refl _

theorem pre_getD {l k : List Nat} (h : l <+: k) {i : Nat} (hi : i < l.length) : k.getD i 0 = l.getD i 0 := by
  obtain ⟨t, rfl⟩ := h
  simp only [List.getD_eq_getElem?_getD]
  rw [List.getElem?_append_left hi]

theorem brun_inv {n : Nat} (hn : n ≤ 16) {p q : Nat → Nat} (hp : ∀ i, i < n → p i < n) (hq : ∀ i, i < n → q i < n) : ∀ (k i : Nat) (s : List Nat × (Nat → Bool)), BInv n s → BInv n (brun p q k i s)
  | 0, _, _, h => h
  | k + 1, i, s, h => by
    simp only [brun]
    split
    · rename_i hi
      exact brun_inv hn hp hq k (i + 1) _ (bmu_round hn hp hq h hi).1
    · exact h

/-- An array that gives each of some numbers its place, after k steps. -/
def nmTo (F : List Nat) : Nat → Nat → Nat
  | 0 => fun _ => 0
  | k + 1 => up (nmTo F k) (F.getD k 0) k

def nameF (p q : Nat → Nat) (x : Nat) : Nat → Nat := nmTo (bfsF p q x) (bfsF p q x).length

theorem nmTo_lt (F : List Nat) (b : Nat) (h0 : 0 < b) : ∀ k, k ≤ b → ∀ i, nmTo F k i < b
  | 0, _, i => h0
  | k + 1, hk, i => by
    simp only [nmTo, up]
    split
    · omega
    · exact nmTo_lt F b h0 k (by omega) i

theorem bfsF_inv {n : Nat} (hn : n ≤ 16) {p q : Nat → Nat} (hp : ∀ i, i < n → p i < n) (hq : ∀ i, i < n → q i < n) {x : Nat} (hx : x < n) : BInv n (bres p q 0 (bx x)) := brun_inv hn hp hq _ _ _ (bx_inv hx hn)

theorem bfsF_len {n : Nat} (hn : n ≤ 16) {p q : Nat → Nat} (hp : ∀ i, i < n → p i < n) (hq : ∀ i, i < n → q i < n) {x : Nat} (hx : x < n) : (bfsF p q x).length ≤ 16 := by
  have := (bfsF_inv hn hp hq hx).len
  unfold bfsF; omega

theorem nameF_lt {n : Nat} (hn : n ≤ 16) {p q : Nat → Nat} (hp : ∀ i, i < n → p i < n) (hq : ∀ i, i < n → q i < n) {x : Nat} (hx : x < n) (i : Nat) : nameF p q x i < 16 :=
  nmTo_lt _ 16 (by omega) _ (bfsF_len hn hp hq hx) i

end Go.Proofs.Ytakapfgjdhliaaa

/- Morphisms: the search, on plain numbers. -/
namespace Go.Proofs.Ytakapfgjdhliaaa
open Go.RowKit DM
set_option linter.unusedVariables false

/-- One dart is led to another: or there is no morphism. -/
def mset (o : Nat → Int) (t h : Nat) : Option (Nat → Int) := if o t < 0 then some (up o t (h : Int)) else if o t = (h : Int) then some o else none

def mfold : List (Nat × Nat) → (Nat → Int) → Option (Nat → Int)
  | [], o => some o
  | p :: l, o => match mset o p.1 p.2 with
    | none => none
    | some o' => mfold l o'

/-- What the two permutations ask at a dart. -/
def prs (b w b' w' : Nat → Nat) (x at_ : Nat) : List (Nat × Nat) := [(b x, b' at_), (w x, w' at_)]

/-- From the i-th dart of F on, k of them. -/
def mFrom (b w b' w' : Nat → Nat) (F : List Nat) : Nat → Nat → (Nat → Int) → Option (Nat → Int)
  | 0, _, o => some o
  | k + 1, i, o => match mfold (prs b w b' w' (F.getD i 0) (o (F.getD i 0)).toNat) o with
    | none => none
    | some o' => mFrom b w b' w' F k (i + 1) o'

def mo0 (y : Nat) : Nat → Int := fun j => if j = 0 then (y : Int) else -1

/-- The morphism that leads 0 to y, if there is one. -/
def morF (b w b' w' : Nat → Nat) (y : Nat) : Option (Nat → Int) := mFrom b w b' w' (bfsF b w 0) (bfsF b w 0).length 0 (mo0 y)

/-- What is led is what was met. -/
structure MRel (M : Nat) (s : List Nat × (Nat → Bool)) (o : Nat → Int) : Prop where
  met : ∀ x, s.2 x = true ↔ 0 ≤ o x
  lo : ∀ x, -1 ≤ o x
  hi : ∀ x, o x < (M : Int)
  mem : ∀ x ∈ s.1, s.2 x = true

theorem MRel.start {M y : Nat} (h : y < M) : MRel M (bx 0) (mo0 y) := by
  refine ⟨fun x => ?_, fun x => ?_, fun x => ?_, fun x hx => ?_⟩
  · simp only [bx, up, mo0]
    by_cases e : x = 0
    · subst e; simp
    · simp [e]
  · simp only [mo0]; split <;> omega
  · simp only [mo0]; split <;> omega
  · simp only [bx, List.mem_singleton] at hx; subst hx; simp [bx, up]

theorem MRel.new {M : Nat} {s : List Nat × (Nat → Bool)} {o : Nat → Int} (h : MRel M s o) {t a : Nat} (ha : a < M) (ht : o t < 0) : mset o t a = some (up o t (a : Int)) ∧ s.2 t = false ∧ MRel M (bst t s) (up o t (a : Int)) := by
  have hm : s.2 t = false := by
    cases hs : s.2 t with
    | false => rfl
    | true => have := (h.met t).1 hs; omega
  refine ⟨by unfold mset; rw [if_pos ht], hm, ?_⟩
  unfold bst
  rw [hm]
  refine ⟨fun x => ?_, fun x => ?_, fun x => ?_, fun x hx => ?_⟩
  · simp only [cond_false, up]
    by_cases e : x = t
    · subst e; simp
    · simp only [if_neg e]; exact h.met x
  · simp only [up]; split
    · omega
    · exact h.lo x
  · simp only [up]; split
    · omega
    · exact h.hi x
  · simp only [cond_false, List.mem_append, List.mem_singleton] at hx
    simp only [cond_false, up]
    rcases hx with hx | rfl
    · split
      · rfl
      · exact h.mem x hx
    · simp

theorem MRel.old {M : Nat} {s : List Nat × (Nat → Bool)} {o : Nat → Int} (h : MRel M s o) {t a : Nat} (ht : ¬ o t < 0) : s.2 t = true ∧ bst t s = s ∧ mset o t a = if o t = (a : Int) then some o else none := by
  have hm : s.2 t = true := (h.met t).2 (by omega)
  refine ⟨hm, by unfold bst; rw [hm]; rfl, by unfold mset; rw [if_neg ht]⟩

/-- What holds at the i-th dart. -/
structure MInv (n M : Nat) (b w b' w' : Nat → Nat) (F : List Nat) (R : Option (Nat → Int)) (i : Nat) (s : List Nat × (Nat → Bool)) (o : Nat → Int) : Prop where
  inv : BInv n s
  le : i ≤ s.1.length
  run : (bres b w i s).1 = F
  rel : MRel M s o
  res : mFrom b w b' w' F (F.length - i) i o = R

theorem MInv.pre {n M : Nat} {b w b' w' : Nat → Nat} {F : List Nat} {R : Option (Nat → Int)} {i : Nat} {s : List Nat × (Nat → Bool)} {o : Nat → Int} (h : MInv n M b w b' w' F R i s o) : s.1 <+: F := by
  rw [← h.run]; unfold bres; exact brun_pre _ _ _ _ _

theorem MInv.more {n M : Nat} {b w b' w' : Nat → Nat} {F : List Nat} {R : Option (Nat → Int)} {i : Nat} {s : List Nat × (Nat → Bool)} {o : Nat → Int} (h : MInv n M b w b' w' F R i s o) : i < s.1.length ↔ i < F.length := by
  constructor
  · intro hi; have := h.pre.length_le; omega
  · intro hi
    refine Classical.byContradiction fun hn => ?_
    have h1 := h.run
    rw [bres_end hn] at h1
    rw [← h1] at hi; exact hn hi

theorem MInv.here {n M : Nat} {b w b' w' : Nat → Nat} {F : List Nat} {R : Option (Nat → Int)} {i : Nat} {s : List Nat × (Nat → Bool)} {o : Nat → Int} (h : MInv n M b w b' w' F R i s o) (hi : i < s.1.length) :
    F.getD i 0 = s.1.getD i 0 ∧ s.1.getD i 0 < n ∧ 0 ≤ o (s.1.getD i 0) ∧ o (s.1.getD i 0) < (M : Int) := by
  refine ⟨pre_getD h.pre hi, h.inv.get hi, ?_, h.rel.hi _⟩
  refine (h.rel.met _).1 (h.rel.mem _ ?_)
  rw [List.getD_eq_getElem?_getD, List.getElem?_eq_getElem hi]; exact List.getElem_mem hi

theorem MInv.start {n M y : Nat} {b w b' w' : Nat → Nat} (hn : 0 < n) (hn16 : n ≤ 16) (hy : y < M) : MInv n M b w b' w' (bfsF b w 0) (morF b w b' w' y) 0 (bx 0) (mo0 y) :=
  ⟨bx_inv hn hn16, Nat.zero_le _, rfl, .start hy, rfl⟩

/-- All being led. -/
theorem MInv.done {n M : Nat} {b w b' w' : Nat → Nat} {F : List Nat} {R : Option (Nat → Int)} {i : Nat} {s : List Nat × (Nat → Bool)} {o : Nat → Int} (h : MInv n M b w b' w' F R i s o) (hi : ¬ i < s.1.length) : R = some o := by
  have h1 := h.res
  have h2 := h.more
  rw [show F.length - i = 0 by omega] at h1
  exact h1.symm

/-- In the midst of the i-th dart: the first k of its two pairs being led. -/
structure MMid (n M : Nat) (b w b' w' : Nat → Nat) (F : List Nat) (R : Option (Nat → Int)) (i x a : Nat) (S : List Nat × (Nat → Bool)) (k : Nat) (s : List Nat × (Nat → Bool)) (o : Nat → Int) : Prop where
  inv : BInv n s
  rel : MRel M s o
  bfs : ((prs b w b' w' x a).drop k).foldl (fun s p => bst p.1 s) s = S
  res : (match mfold ((prs b w b' w' x a).drop k) o with
    | none => none
    | some o' => mFrom b w b' w' F (F.length - (i + 1)) (i + 1) o') = R
  at_ : o x = (a : Int)
  le : i < s.1.length

theorem MInv.mid {n M : Nat} {b w b' w' : Nat → Nat} {F : List Nat} {R : Option (Nat → Int)} {i : Nat} {s : List Nat × (Nat → Bool)} {o : Nat → Int} (h : MInv n M b w b' w' F R i s o) (hi : i < s.1.length) :
    MMid n M b w b' w' F R i (s.1.getD i 0) (o (s.1.getD i 0)).toNat (bst (w (s.1.getD i 0)) (bst (b (s.1.getD i 0)) s)) 0 s o := by
  obtain ⟨h1, h2, h3, h4⟩ := h.here hi
  refine ⟨h.inv, h.rel, rfl, ?_, by omega, hi⟩
  have h5 := h.res
  have h6 := h.more.1 hi
  rw [show F.length - i = (F.length - (i + 1)) + 1 by omega] at h5
  simp only [mFrom, h1] at h5
  exact h5

theorem MMid.next {n M : Nat} (hn : n ≤ 16) {b w b' w' : Nat → Nat} {F : List Nat} {R : Option (Nat → Int)} {i x a : Nat} {S s : List Nat × (Nat → Bool)} {k : Nat} {o : Nat → Int} (h : MMid n M b w b' w' F R i x a S k s o) {t c : Nat} (hp : (prs b w b' w' x a)[k]? = some (t, c)) (ht : t < n) (hc : c < M) :
    (o t < 0 → s.2 t = false ∧ MMid n M b w b' w' F R i x a S (k + 1) (bst t s) (up o t (c : Int))) ∧ (¬ o t < 0 → o t = (c : Int) → s.2 t = true ∧ MMid n M b w b' w' F R i x a S (k + 1) s o) ∧ (¬ o t < 0 → o t ≠ (c : Int) → R = none) := by
  have hk : k < (prs b w b' w' x a).length := (List.getElem?_eq_some_iff.1 hp).1
  have hd : (prs b w b' w' x a).drop k = (t, c) :: (prs b w b' w' x a).drop (k + 1) := by
    rw [List.drop_eq_getElem_cons hk]; rw [List.getElem?_eq_getElem hk] at hp; rw [Option.some.inj hp]
  have hres := h.res
  have hbfs := h.bfs
  rw [hd] at hres hbfs
  simp only [mfold] at hres
  simp only [List.foldl_cons] at hbfs
  refine ⟨fun h1 => ?_, fun h1 h2 => ?_, fun h1 h2 => ?_⟩
  · obtain ⟨e, hm, hr⟩ := h.rel.new hc h1
    rw [e] at hres
    refine ⟨hm, h.inv.bst hn ht, hr, hbfs, hres, ?_, ?_⟩
    · unfold up
      by_cases ex : x = t
      · subst ex; have := h.at_; omega
      · rw [if_neg ex]; exact h.at_
    · have := (bst_pre t s).length_le
      have := h.le
      omega
  · obtain ⟨hm, e1, e2⟩ := h.rel.old (a := c) h1
    rw [e2, if_pos h2] at hres
    rw [e1] at hbfs
    exact ⟨hm, h.inv, h.rel, hbfs, hres, h.at_, h.le⟩
  · obtain ⟨_, _, e2⟩ := h.rel.old (a := c) h1
    rw [e2, if_neg h2] at hres
    exact hres.symm

theorem MMid.done {n M : Nat} (hn : n ≤ 16) {b w b' w' : Nat → Nat} (hb : ∀ i, i < n → b i < n) (hw : ∀ i, i < n → w i < n) {F : List Nat} {R : Option (Nat → Int)} {i : Nat} {s0 s : List Nat × (Nat → Bool)} {o0 o : Nat → Int} (h0 : MInv n M b w b' w' F R i s0 o0) (hi : i < s0.1.length)
    (h : MMid n M b w b' w' F R i (s0.1.getD i 0) (o0 (s0.1.getD i 0)).toNat (bst (w (s0.1.getD i 0)) (bst (b (s0.1.getD i 0)) s0)) 2 s o) : MInv n M b w b' w' F R (i + 1) s o ∧ bmu (i + 1) s < bmu i s0 := by
  have hs : s = bst (w (s0.1.getD i 0)) (bst (b (s0.1.getD i 0)) s0) := h.bfs
  have hr := bmu_round hn hb hw h0.inv hi
  have hst := bres_step hn hb hw h0.inv hi
  rw [← hs] at hr hst
  refine ⟨⟨hr.1, h.le, by rw [hst]; exact h0.run, h.rel, h.res⟩, hr.2⟩

end Go.Proofs.Ytakapfgjdhliaaa

/- Morphisms: the list of them. -/
namespace Go.Proofs.Ytakapfgjdhliaaa
open Go.RowKit DM
set_option linter.unusedVariables false

/-- The morphisms that lead 0 to a number below k. -/
def morL (b w b' w' : Nat → Nat) : Nat → List (Nat → Int)
  | 0 => []
  | k + 1 => match morF b w b' w' k with
    | none => morL b w b' w' k
    | some o => morL b w b' w' k ++ [o]

theorem morL_none {b w b' w' : Nat → Nat} {k : Nat} (h : morF b w b' w' k = none) : morL b w b' w' (k + 1) = morL b w b' w' k := by simp only [morL, h]
theorem morL_some {b w b' w' : Nat → Nat} {k : Nat} {o : Nat → Int} (h : morF b w b' w' k = some o) : morL b w b' w' (k + 1) = morL b w b' w' k ++ [o] := by simp only [morL, h]
theorem morL_len (b w b' w' : Nat → Nat) : ∀ k, (morL b w b' w' k).length ≤ k
  | 0 => Nat.le_refl _
  | k + 1 => by
    have := morL_len b w b' w' k
    simp only [morL]; split
    · omega
    · simp; omega

end Go.Proofs.Ytakapfgjdhliaaa

/- Types of permutations: the lengths of the cycles, sorted downwards, and counted downwards. -/
namespace Go.Proofs.Ytakapfgjdhliaaa
open Go.RowKit DM
set_option linter.unusedVariables false

theorem nodup_len : ∀ (n : Nat) (l : List Nat), l.Nodup → (∀ x ∈ l, x < n) → l.length ≤ n
  | 0, l, _, h => by
    cases l with
    | nil => simp
    | cons a l => exact absurd (h a (by simp)) (Nat.not_lt_zero _)
  | n + 1, l, hd, h => by
    by_cases hn : n ∈ l
    · have h1 := nodup_len n (l.erase n) (hd.erase n) fun x hx => by
        have h2 := h x (List.mem_of_mem_erase hx)
        have h3 : x ≠ n := fun e => by subst e; exact hd.not_mem_erase hx
        omega
      have h2 := List.length_erase_of_mem hn
      omega
    · have := nodup_len n l hd fun x hx => by
        have h2 := h x hx
        have h3 : x ≠ n := fun e => by subst e; exact hn hx
        omega
      omega

end Go.Proofs.Ytakapfgjdhliaaa
