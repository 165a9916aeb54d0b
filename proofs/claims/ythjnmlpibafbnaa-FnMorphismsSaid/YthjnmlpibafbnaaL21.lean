import Derived.Test.YthjnmlpibafbnaaL3
import Derived.Test.YthjnmlpibafbnaaX34
namespace Go.Proofs.Ythjnmlpibafbnaa
open Go.RowKit DM
def bx (x : Nat) : List Nat × (Nat → Bool) := ([x], up (fun _ => false) x true)
theorem bx_inv {n x : Nat} (hx : x < n) (hn : n ≤ 16) : BInv n (bx x) := ⟨fun y hy => by simp [bx] at hy; omega, by
  have h1 := cntU_up (met := fun _ => false) (y := x) (by omega) rfl
  have h2 := cntU_le 16 (fun _ => false)
  show 1 + cntU 16 (up (fun _ => false) x true) ≤ 16
  omega⟩
def bfsF (p q : Nat → Nat) (x : Nat) : List Nat := (bres p q 0 (bx x)).1
theorem bst_pre (y : Nat) (s : List Nat × (Nat → Bool)) : s.1 <+: (bst y s).1 := by
  unfold bst
  cases s.2 y
  · exact List.prefix_append _ _
  · exact List.prefix_refl _
theorem brun_pre (p q : Nat → Nat) : ∀ (k i : Nat) (s : List Nat × (Nat → Bool)), s.1 <+: (brun p q k i s).1
  | 0, _, _ => List.prefix_refl _
  | k + 1, i, s => by
    simp only [brun]
    split
    · exact ((bst_pre _ s).trans (bst_pre _ _)).trans (brun_pre p q k (i + 1) _)
    · exact List.prefix_refl _
theorem pre_getD {l k : List Nat} (h : l <+: k) {i : Nat} (hi : i < l.length) : k.getD i 0 = l.getD i 0 := by
  obtain ⟨t, rfl⟩ := h
  simp only [List.getD_eq_getElem?_getD]
  rw [List.getElem?_append_left hi]
theorem brun_inv {n : Nat} (hn : n ≤ 16) {p q : Nat → Nat} (hp : ∀ i, i < n → p i < n) (hq : ∀ i, i < n → q i < n) : ∀ (k i : Nat) (s : List Nat × (Nat → Bool)), BInv n s → BInv n (brun p q k i s)
  | 0, _, _, h => h
  | k + 1, i, s, h => by
    simp only [brun]
    split
    · rename_i hi
      exact brun_inv hn hp hq k (i + 1) _ (bmu_round hn hp hq h hi).1
    · exact h
def nmTo (F : List Nat) : Nat → Nat → Nat
  | 0 => fun _ => 0
  | k + 1 => up (nmTo F k) (F.getD k 0) k
def nameF (p q : Nat → Nat) (x : Nat) : Nat → Nat := nmTo (bfsF p q x) (bfsF p q x).length
theorem nmTo_lt (F : List Nat) (b : Nat) (h0 : 0 < b) : ∀ k, k ≤ b → ∀ i, nmTo F k i < b
  | 0, _, i => h0
  | k + 1, hk, i => by
    simp only [nmTo, up]
    split
    · omega
    · exact nmTo_lt F b h0 k (by omega) i
theorem bfsF_inv {n : Nat} (hn : n ≤ 16) {p q : Nat → Nat} (hp : ∀ i, i < n → p i < n) (hq : ∀ i, i < n → q i < n) {x : Nat} (hx : x < n) : BInv n (bres p q 0 (bx x)) := brun_inv hn hp hq _ _ _ (bx_inv hx hn)
theorem bfsF_len {n : Nat} (hn : n ≤ 16) {p q : Nat → Nat} (hp : ∀ i, i < n → p i < n) (hq : ∀ i, i < n → q i < n) {x : Nat} (hx : x < n) : (bfsF p q x).length ≤ 16 := by
  have := (bfsF_inv hn hp hq hx).len
  unfold bfsF; omega
theorem nameF_lt {n : Nat} (hn : n ≤ 16) {p q : Nat → Nat} (hp : ∀ i, i < n → p i < n) (hq : ∀ i, i < n → q i < n) {x : Nat} (hx : x < n) (i : Nat) : nameF p q x i < 16 :=
  nmTo_lt _ 16 (by omega) _ (bfsF_len hn hp hq hx) i
end Go.Proofs.Ythjnmlpibafbnaa

namespace Go.Proofs.Ythjnmlpibafbnaa
open Go.RowKit DM
set_option linter.unusedVariables false
def mset (o : Nat → Int) (t h : Nat) : Option (Nat → Int) := if o t < 0 then some (up o t (h : Int)) else if o t = (h : Int) then some o else none
def mfold : List (Nat × Nat) → (Nat → Int) → Option (Nat → Int)
  | [], o => some o
  | p :: l, o => match mset o p.1 p.2 with
    | none => none
    | some o' => mfold l o'
def prs (b w b' w' : Nat → Nat) (x at_ : Nat) : List (Nat × Nat) := [(b x, b' at_), (w x, w' at_)]
def mFrom (b w b' w' : Nat → Nat) (F : List Nat) : Nat → Nat → (Nat → Int) → Option (Nat → Int)
  | 0, _, o => some o
  | k + 1, i, o => match mfold (prs b w b' w' (F.getD i 0) (o (F.getD i 0)).toNat) o with
    | none => none
    | some o' => mFrom b w b' w' F k (i + 1) o'
def mo0 (y : Nat) : Nat → Int := fun j => if j = 0 then (y : Int) else -1
def morF (b w b' w' : Nat → Nat) (y : Nat) : Option (Nat → Int) := mFrom b w b' w' (bfsF b w 0) (bfsF b w 0).length 0 (mo0 y)
structure MRel (M : Nat) (s : List Nat × (Nat → Bool)) (o : Nat → Int) : Prop where
  met : ∀ x, s.2 x = true ↔ 0 ≤ o x
  lo : ∀ x, -1 ≤ o x
  hi : ∀ x, o x < (M : Int)
  mem : ∀ x ∈ s.1, s.2 x = true
theorem MRel.start {M y : Nat} (h : y < M) : MRel M (bx 0) (mo0 y) := by
  refine ⟨fun x => ?_, fun x => ?_, fun x => ?_, fun x hx => ?_⟩
  · simp only [bx, up, mo0]
    by_cases e : x = 0
    · subst e; simp
    · simp [e]
  · simp only [mo0]; split <;> omega
  · simp only [mo0]; split <;> omega
  · simp only [bx, List.mem_singleton] at hx; subst hx; simp [bx, up]
theorem MRel.new {M : Nat} {s : List Nat × (Nat → Bool)} {o : Nat → Int} (h : MRel M s o) {t a : Nat} (ha : a < M) (ht : o t < 0) : mset o t a = some (up o t (a : Int)) ∧ s.2 t = false ∧ MRel M (bst t s) (up o t (a : Int)) := by
  have hm : s.2 t = false := by
    cases hs : s.2 t with
    | false => rfl
    | true => have := (h.met t).1 hs; omega
  refine ⟨by unfold mset; rw [if_pos ht], hm, ?_⟩
  unfold bst
  rw [hm]
  refine ⟨fun x => ?_, fun x => ?_, fun x => ?_, fun x hx => ?_⟩
  · simp only [cond_false, up]
    by_cases e : x = t
    · subst e; simp
    · simp only [if_neg e]; exact h.met x
  · simp only [up]; split
    · omega
    · exact h.lo x
  · simp only [up]; split
    · omega
    · exact h.hi x
  · simp only [cond_false, List.mem_append, List.mem_singleton] at hx
    simp only [cond_false, up]
    rcases hx with hx | rfl
    · split
      · rfl
      · exact h.mem x hx
    · simp
theorem MRel.old {M : Nat} {s : List Nat × (Nat → Bool)} {o : Nat → Int} (h : MRel M s o) {t a : Nat} (ht : ¬ o t < 0) : s.2 t = true ∧ bst t s = s ∧ mset o t a = if o t = (a : Int) then some o else none := by
  have hm : s.2 t = true := (h.met t).2 (by omega)
  refine ⟨hm, by unfold bst; rw [hm]; rfl, by unfold mset; rw [if_neg ht]⟩
structure MInv (n M : Nat) (b w b' w' : Nat → Nat) (F : List Nat) (R : Option (Nat → Int)) (i : Nat) (s : List Nat × (Nat → Bool)) (o : Nat → Int) : Prop where
  inv : BInv n s
  le : i ≤ s.1.length
  run : (bres b w i s).1 = F
  rel : MRel M s o
  res : mFrom b w b' w' F (F.length - i) i o = R
theorem MInv.pre {n M : Nat} {b w b' w' : Nat → Nat} {F : List Nat} {R : Option (Nat → Int)} {i : Nat} {s : List Nat × (Nat → Bool)} {o : Nat → Int} (h : MInv n M b w b' w' F R i s o) : s.1 <+: F := by
  rw [← h.run]; unfold bres; exact brun_pre _ _ _ _ _
theorem MInv.more {n M : Nat} {b w b' w' : Nat → Nat} {F : List Nat} {R : Option (Nat → Int)} {i : Nat} {s : List Nat × (Nat → Bool)} {o : Nat → Int} (h : MInv n M b w b' w' F R i s o) : i < s.1.length ↔ i < F.length := by
  constructor
  · intro hi; have := h.pre.length_le; omega
  · intro hi
    refine Classical.byContradiction fun hn => ?_
    have h1 := h.run
    rw [bres_end hn] at h1
    rw [← h1] at hi; exact hn hi
theorem MInv.here {n M : Nat} {b w b' w' : Nat → Nat} {F : List Nat} {R : Option (Nat → Int)} {i : Nat} {s : List Nat × (Nat → Bool)} {o : Nat → Int} (h : MInv n M b w b' w' F R i s o) (hi : i < s.1.length) :
    F.getD i 0 = s.1.getD i 0 ∧ s.1.getD i 0 < n ∧ 0 ≤ o (s.1.getD i 0) ∧ o (s.1.getD i 0) < (M : Int) := by
  refine ⟨pre_getD h.pre hi, h.inv.get hi, ?_, h.rel.hi _⟩
  refine (h.rel.met _).1 (h.rel.mem _ ?_)
  rw [List.getD_eq_getElem?_getD, List.getElem?_eq_getElem hi]; exact List.getElem_mem hi
theorem MInv.start {n M y : Nat} {b w b' w' : Nat → Nat} (hn : 0 < n) (hn16 : n ≤ 16) (hy : y < M) : MInv n M b w b' w' (bfsF b w 0) (morF b w b' w' y) 0 (bx 0) (mo0 y) :=
  ⟨bx_inv hn hn16, Nat.zero_le _, rfl, .start hy, rfl⟩
theorem MInv.done {n M : Nat} {b w b' w' : Nat → Nat} {F : List Nat} {R : Option (Nat → Int)} {i : Nat} {s : List Nat × (Nat → Bool)} {o : Nat → Int} (h : MInv n M b w b' w' F R i s o) (hi : ¬ i < s.1.length) : R = some o := by
  have h1 := h.res
  have h2 := h.more
  rw [show F.length - i = 0 by omega] at h1
  exact h1.symm
structure MMid (n M : Nat) (b w b' w' : Nat → Nat) (F : List Nat) (R : Option (Nat → Int)) (i x a : Nat) (S : List Nat × (Nat → Bool)) (k : Nat) (s : List Nat × (Nat → Bool)) (o : Nat → Int) : Prop where
  inv : BInv n s
  rel : MRel M s o
  bfs : ((prs b w b' w' x a).drop k).foldl (fun s p => bst p.1 s) s = S
  res : (match mfold ((prs b w b' w' x a).drop k) o with
    | none => none
    | some o' => mFrom b w b' w' F (F.length - (i + 1)) (i + 1) o') = R
  at_ : o x = (a : Int)
  le : i < s.1.length
theorem MInv.mid {n M : Nat} {b w b' w' : Nat → Nat} {F : List Nat} {R : Option (Nat → Int)} {i : Nat} {s : List Nat × (Nat → Bool)} {o : Nat → Int} (h : MInv n M b w b' w' F R i s o) (hi : i < s.1.length) :
    MMid n M b w b' w' F R i (s.1.getD i 0) (o (s.1.getD i 0)).toNat (bst (w (s.1.getD i 0)) (bst (b (s.1.getD i 0)) s)) 0 s o := by
  obtain ⟨h1, h2, h3, h4⟩ := h.here hi
  refine ⟨h.inv, h.rel, rfl, ?_, by omega, hi⟩
  have h5 := h.res
  have h6 := h.more.1 hi
  rw [show F.length - i = (F.length - (i + 1)) + 1 by omega] at h5
  simp only [mFrom, h1] at h5
  exact h5
theorem MMid.next {n M : Nat} (hn : n ≤ 16) {b w b' w' : Nat → Nat} {F : List Nat} {R : Option (Nat → Int)} {i x a : Nat} {S s : List Nat × (Nat → Bool)} {k : Nat} {o : Nat → Int} (h : MMid n M b w b' w' F R i x a S k s o) {t c : Nat} (hp : (prs b w b' w' x a)[k]? = some (t, c)) (ht : t < n) (hc : c < M) :
    (o t < 0 → s.2 t = false ∧ MMid n M b w b' w' F R i x a S (k + 1) (bst t s) (up o t (c : Int))) ∧ (¬ o t < 0 → o t = (c : Int) → s.2 t = true ∧ MMid n M b w b' w' F R i x a S (k + 1) s o) ∧ (¬ o t < 0 → o t ≠ (c : Int) → R = none) := by
  have hk : k < (prs b w b' w' x a).length := (List.getElem?_eq_some_iff.1 hp).1
  have hd : (prs b w b' w' x a).drop k = (t, c) :: (prs b w b' w' x a).drop (k + 1) := by
    rw [List.drop_eq_getElem_cons hk]; rw [List.getElem?_eq_getElem hk] at hp; rw [Option.some.inj hp]
  have hres := h.res
  have hbfs := h.bfs
  rw [hd] at hres hbfs
  simp only [mfold] at hres
  simp only [List.foldl_cons] at hbfs
  refine ⟨fun h1 => ?_, fun h1 h2 => ?_, fun h1 h2 => ?_⟩
  · obtain ⟨e, hm, hr⟩ := h.rel.new hc h1
    rw [e] at hres
    refine ⟨hm, h.inv.bst hn ht, hr, hbfs, hres, ?_, ?_⟩
    · unfold up
      by_cases ex : x = t
      · subst ex; have := h.at_; omega
      · rw [if_neg ex]; exact h.at_
    · have := (bst_pre t s).length_le
      have := h.le
      omega
  · obtain ⟨hm, e1, e2⟩ := h.rel.old (a := c) h1
    rw [e2, if_pos h2] at hres
    rw [e1] at hbfs
    exact ⟨hm, h.inv, h.rel, hbfs, hres, h.at_, h.le⟩
  · obtain ⟨_, _, e2⟩ := h.rel.old (a := c) h1
    rw [e2, if_neg h2] at hres
    exact hres.symm
theorem MMid.done {n M : Nat} (hn : n ≤ 16) {b w b' w' : Nat → Nat} (hb : ∀ i, i < n → b i < n) (hw : ∀ i, i < n → w i < n) {F : List Nat} {R : Option (Nat → Int)} {i : Nat} {s0 s : List Nat × (Nat → Bool)} {o0 o : Nat → Int} (h0 : MInv n M b w b' w' F R i s0 o0) (hi : i < s0.1.length)
    (h : MMid n M b w b' w' F R i (s0.1.getD i 0) (o0 (s0.1.getD i 0)).toNat (bst (w (s0.1.getD i 0)) (bst (b (s0.1.getD i 0)) s0)) 2 s o) : MInv n M b w b' w' F R (i + 1) s o ∧ bmu (i + 1) s < bmu i s0 := by
  have hs : s = bst (w (s0.1.getD i 0)) (bst (b (s0.1.getD i 0)) s0) := h.bfs
  have hr := bmu_round hn hb hw h0.inv hi
  have hst := bres_step hn hb hw h0.inv hi
  rw [← hs] at hr hst
  refine ⟨⟨hr.1, h.le, by rw [hst]; exact h0.run, h.rel, h.res⟩, hr.2⟩
end Go.Proofs.Ythjnmlpibafbnaa
namespace Go.Proofs.Ythjnmlpibafbnaa
open Go.RowKit DM
set_option linter.unusedVariables false
def morL (b w b' w' : Nat → Nat) : Nat → List (Nat → Int)
  | 0 => []
  | k + 1 => match morF b w b' w' k with
    | none => morL b w b' w' k
    | some o => morL b w b' w' k ++ [o]
theorem morL_none {b w b' w' : Nat → Nat} {k : Nat} (h : morF b w b' w' k = none) : morL b w b' w' (k + 1) = morL b w b' w' k := by simp only [morL, h]
theorem morL_some {b w b' w' : Nat → Nat} {k : Nat} {o : Nat → Int} (h : morF b w b' w' k = some o) : morL b w b' w' (k + 1) = morL b w b' w' k ++ [o] := by simp only [morL, h]
theorem morL_len (b w b' w' : Nat → Nat) : ∀ k, (morL b w b' w' k).length ≤ k
  | 0 => Nat.le_refl _
  | k + 1 => by
    have := morL_len b w b' w' k
    simp only [morL]; split
    · omega
    · simp; omega
end Go.Proofs.Ythjnmlpibafbnaa

namespace Go.Proofs.Ythjnmlpibafbnaa
open Go.RowKit DM
set_option linter.unusedVariables false
def srtN (l : List Nat) : List Nat := l.mergeSort fun x y => decide (x ≤ y)
theorem srtN_len (l : List Nat) : (srtN l).length = l.length := (List.mergeSort_perm _ _).length_eq
theorem nodup_len : ∀ (n : Nat) (l : List Nat), l.Nodup → (∀ x ∈ l, x < n) → l.length ≤ n
  | 0, l, _, h => by
    cases l with
    | nil => simp
    | cons a l => exact absurd (h a (by simp)) (Nat.not_lt_zero _)
  | n + 1, l, hd, h => by
    by_cases hn : n ∈ l
    · have h1 := nodup_len n (l.erase n) (hd.erase n) fun x hx => by
        have h2 := h x (List.mem_of_mem_erase hx)
        have h3 : x ≠ n := fun e => by subst e; exact hd.not_mem_erase hx
        omega
      have h2 := List.length_erase_of_mem hn
      omega
    · have := nodup_len n l hd fun x hx => by
        have h2 := h x hx
        have h3 : x ≠ n := fun e => by subst e; exact hn hx
        omega
      omega
end Go.Proofs.Ythjnmlpibafbnaa

namespace Go.Proofs.Ythjnmlpibafbnaa
open Go.RowKit DM
set_option linter.unusedVariables false
set_option linter.unusedSimpArgs false
structure Np (n : Nat) (p : Nat → Nat) : Prop where
  perm : Perm n p
  out : ∀ i, n ≤ i → p i = 0
def mulF (n : Nat) (p q : Nat → Nat) : Nat → Nat := fillF (fun i => q (p i)) n
theorem mul_at {n : Nat} {p q : Nat → Nat} {i : Nat} (h : i < n) : mulF n p q i = q (p i) := by simp only [mulF, fillF, if_pos h]
theorem mul_out {n : Nat} {p q : Nat → Nat} {i : Nat} (h : n ≤ i) : mulF n p q i = 0 := by simp only [mulF, fillF, if_neg (Nat.not_lt.2 h)]
theorem one_at {n i : Nat} (h : i < n) : sameF n i = i := by simp only [sameF, if_pos h]
theorem one_out {n i : Nat} (h : n ≤ i) : sameF n i = 0 := by simp only [sameF, if_neg (Nat.not_lt.2 h)]
theorem np_ext {n : Nat} {p q : Nat → Nat} (hp : Np n p) (hq : Np n q) (h : ∀ i, i < n → p i = q i) : p = q := by
  funext i
  by_cases hi : i < n
  · exact h i hi
  · rw [hp.out i (by omega), hq.out i (by omega)]
theorem one_np (n : Nat) : Np n (sameF n) := ⟨perm_same n, fun i hi => one_out hi⟩
theorem mul_np {n : Nat} {p q : Nat → Nat} (hp : Np n p) (hq : Np n q) : Np n (mulF n p q) :=
  ⟨⟨fun i hi => by rw [mul_at hi]; exact hq.perm.lt _ (hp.perm.lt i hi), fun i j hi hj e => by
    rw [mul_at hi, mul_at hj] at e
    exact hp.perm.inj i j hi hj (hq.perm.inj _ _ (hp.perm.lt i hi) (hp.perm.lt j hj) e)⟩, fun i hi => mul_out hi⟩
theorem back_out {p : Nat → Nat} {n : Nat} (hp : Perm n p) : ∀ k, k ≤ n → ∀ j, n ≤ j → backTo p k j = 0
  | 0, _, _, _ => rfl
  | k + 1, hk, j, hj => by
    simp only [backTo, up]
    have := hp.lt k (by omega)
    rw [if_neg (by omega)]
    exact back_out hp k (by omega) j hj
theorem inv_np {n : Nat} (hn : n ≤ 16) {p : Nat → Nat} (hp : Np n p) : Np n (backTo p n) := ⟨perm_back hn hp.perm, fun i hi => back_out hp.perm n (Nat.le_refl _) i hi⟩
theorem mul_assoc {n : Nat} {p q r : Nat → Nat} (hp : Np n p) (hq : Np n q) (hr : Np n r) : mulF n (mulF n p q) r = mulF n p (mulF n q r) :=
  np_ext (mul_np (mul_np hp hq) hr) (mul_np hp (mul_np hq hr)) fun i hi => by rw [mul_at hi, mul_at hi, mul_at hi, mul_at (hp.perm.lt i hi)]
theorem mul_one {n : Nat} {p : Nat → Nat} (hp : Np n p) : mulF n p (sameF n) = p :=
  np_ext (mul_np hp (one_np n)) hp fun i hi => by rw [mul_at hi, one_at (hp.perm.lt i hi)]
theorem one_mul {n : Nat} {p : Nat → Nat} (hp : Np n p) : mulF n (sameF n) p = p :=
  np_ext (mul_np (one_np n) hp) hp fun i hi => by rw [mul_at hi, one_at hi]
theorem mul_inv {n : Nat} (hn : n ≤ 16) {p : Nat → Nat} (hp : Np n p) : mulF n p (backTo p n) = sameF n :=
  np_ext (mul_np hp (inv_np hn hp)) (one_np n) fun i hi => by rw [mul_at hi, one_at hi]; exact backTo_at hp.perm n (Nat.le_refl _) i hi
theorem inv_mul {n : Nat} (hn : n ≤ 16) {p : Nat → Nat} (hp : Np n p) : mulF n (backTo p n) p = sameF n :=
  np_ext (mul_np (inv_np hn hp) hp) (one_np n) fun i hi => by
    rw [mul_at hi, one_at hi]
    obtain ⟨x, hx, rfl⟩ := perm_surj hn hp.perm hi
    rw [backTo_at hp.perm n (Nat.le_refl _) x hx]
theorem inv_one {n : Nat} (hn : n ≤ 16) : backTo (sameF n) n = sameF n := by
  have h := mul_inv hn (one_np n)
  rwa [one_mul (inv_np hn (one_np n))] at h
theorem inv_back {n : Nat} {p : Nat → Nat} (hp : Np n p) {x : Nat} (hx : x < n) : backTo p n (p x) = x := backTo_at hp.perm n (Nat.le_refl _) x hx
inductive Grp (n : Nat) (gens : List (Nat → Nat)) : (Nat → Nat) → Prop
  | one : Grp n gens (sameF n)
  | mul {p g : Nat → Nat} : Grp n gens p → g ∈ gens → Grp n gens (mulF n p g)
theorem Grp.np {n : Nat} {gens : List (Nat → Nat)} (hg : ∀ g ∈ gens, Np n g) {p : Nat → Nat} (h : Grp n gens p) : Np n p := by
  induction h with
  | one => exact one_np n
  | mul _ hm ih => exact mul_np ih (hg _ hm)
theorem Grp.gen {n : Nat} {gens : List (Nat → Nat)} (hg : ∀ g ∈ gens, Np n g) {g : Nat → Nat} (h : g ∈ gens) : Grp n gens g := by
  have := Grp.mul (Grp.one (n := n) (gens := gens)) h
  rwa [one_mul (hg g h)] at this
theorem Grp.comp {n : Nat} {gens : List (Nat → Nat)} (hg : ∀ g ∈ gens, Np n g) {p q : Nat → Nat} (hp : Grp n gens p) (hq : Grp n gens q) : Grp n gens (mulF n p q) := by
  induction hq with
  | one => rw [mul_one (hp.np hg)]; exact hp
  | mul h1 h2 ih =>
    rw [← mul_assoc (hp.np hg) (h1.np hg) (hg _ h2)]
    exact .mul ih h2
structure TblOk (n : Nat) (has : Nat → Nat → Bool) (tab : Nat → Nat → Nat → Nat) : Prop where
  diag : ∀ i, i < n → has i i = true ∧ tab i i = sameF n
  lt : ∀ i k, i < n → has i k = true → k < n
  np : ∀ i k, i < n → has i k = true → Np n (tab i k)
  fix : ∀ i k, i < n → has i k = true → ∀ j, j < i → tab i k j = j
  at_ : ∀ i k, i < n → has i k = true → tab i k i = k
def InT (n : Nat) (has : Nat → Nat → Bool) (tab : Nat → Nat → Nat → Nat) : Nat → (Nat → Nat) → Prop
  | 0, r => r = sameF n
  | d + 1, r => ∃ k, has (n - (d + 1)) k = true ∧ ∃ h, InT n has tab d h ∧ r = mulF n h (tab (n - (d + 1)) k)
theorem InT.np {n : Nat} {has : Nat → Nat → Bool} {tab : Nat → Nat → Nat → Nat} (hT : TblOk n has tab) : ∀ {d : Nat} {r : Nat → Nat}, d ≤ n → InT n has tab d r → Np n r ∧ ∀ j, j < n - d → r j = j
  | 0, r, _, h => by
    have h : r = sameF n := h
    subst h; exact ⟨one_np n, fun j hj => one_at (by omega)⟩
  | d + 1, r, hd, ⟨k, hk, h, hh, e⟩ => by
    obtain ⟨h1, h2⟩ := InT.np hT (d := d) (by omega) hh
    have h3 := hT.np _ k (by omega) hk
    subst e
    refine ⟨mul_np h1 h3, fun j hj => ?_⟩
    rw [mul_at (by omega), h2 j (by omega)]
    exact hT.fix _ k (by omega) hk j hj
theorem InT.peel {n : Nat} (hn : n ≤ 16) {has : Nat → Nat → Bool} {tab : Nat → Nat → Nat → Nat} (hT : TblOk n has tab) {d : Nat} {r : Nat → Nat} (hd : d + 1 ≤ n) : InT n has tab (d + 1) r ↔ Np n r ∧ has (n - (d + 1)) (r (n - (d + 1))) = true ∧ InT n has tab d (mulF n r (backTo (tab (n - (d + 1)) (r (n - (d + 1)))) n)) := by
  constructor
  · rintro ⟨k, hk, h, hh, rfl⟩
    obtain ⟨h1, h2⟩ := InT.np hT (by omega) hh
    have h3 := hT.np _ k (by omega) hk
    have hlt : n - (d + 1) < n := by omega
    have e : mulF n h (tab (n - (d + 1)) k) (n - (d + 1)) = k := by
      rw [mul_at hlt, h2 _ (by omega)]; exact hT.at_ _ k hlt hk
    refine ⟨mul_np h1 h3, by rw [e]; exact hk, ?_⟩
    rw [e, mul_assoc h1 h3 (inv_np hn h3), mul_inv hn h3, mul_one h1]
    exact hh
  · rintro ⟨h1, h2, h3⟩
    have hlt : n - (d + 1) < n := by omega
    have h4 := hT.np _ _ hlt h2
    refine ⟨_, h2, _, h3, ?_⟩
    rw [mul_assoc h1 (inv_np hn h4) h4, inv_mul hn h4, mul_one h1]
theorem InT.one {n : Nat} (hn : n ≤ 16) {has : Nat → Nat → Bool} {tab : Nat → Nat → Nat → Nat} (hT : TblOk n has tab) : ∀ {d : Nat}, d ≤ n → InT n has tab d (sameF n)
  | 0, _ => rfl
  | d + 1, hd => by
    have h := hT.diag (n - (d + 1)) (by omega)
    refine ⟨_, h.1, sameF n, InT.one hn hT (by omega), ?_⟩
    rw [h.2, mul_one (one_np n)]
theorem InT.down {n : Nat} (hn : n ≤ 16) {has : Nat → Nat → Bool} {tab : Nat → Nat → Nat → Nat} (hT : TblOk n has tab) {d : Nat} {r : Nat → Nat} (hd : d + 1 ≤ n) (h : InT n has tab (d + 1) r) (hf : r (n - (d + 1)) = n - (d + 1)) : InT n has tab d r := by
  obtain ⟨h1, h2, h3⟩ := (InT.peel hn hT hd).1 h
  rw [hf, (hT.diag _ (by omega)).2, inv_one hn, mul_one h1] at h3
  exact h3
theorem InT.up {n : Nat} (hn : n ≤ 16) {has : Nat → Nat → Bool} {tab : Nat → Nat → Nat → Nat} (hT : TblOk n has tab) {d : Nat} {r : Nat → Nat} (hd : d + 1 ≤ n) (h : InT n has tab d r) : InT n has tab (d + 1) r := by
  have h1 := InT.np hT (by omega) h
  refine ⟨_, (hT.diag (n - (d + 1)) (by omega)).1, r, h, ?_⟩
  rw [(hT.diag _ (by omega)).2, mul_one h1.1]
theorem InT.downs {n : Nat} (hn : n ≤ 16) {has : Nat → Nat → Bool} {tab : Nat → Nat → Nat → Nat} (hT : TblOk n has tab) : ∀ {e d : Nat} {r : Nat → Nat}, d + e ≤ n → InT n has tab (d + e) r → (∀ j, j < n - d → r j = j) → InT n has tab d r
  | 0, _, _, _, h, _ => h
  | e + 1, d, r, hd, h, hf => InT.downs hn hT (by omega) (InT.down hn hT (by omega) h (hf _ (by omega))) hf
theorem InT.entry {n : Nat} (hn : n ≤ 16) {has : Nat → Nat → Bool} {tab : Nat → Nat → Nat → Nat} (hT : TblOk n has tab) {d k : Nat} (hd : d + 1 ≤ n) (hk : has (n - (d + 1)) k = true) : InT n has tab (d + 1) (tab (n - (d + 1)) k) :=
  ⟨k, hk, sameF n, InT.one hn hT (by omega), (one_mul (hT.np _ k (by omega) hk)).symm⟩
theorem InT.closed {n : Nat} (hn : n ≤ 16) {has : Nat → Nat → Bool} {tab : Nat → Nat → Nat → Nat} (hT : TblOk n has tab) (hp : ∀ i k j l, i < n → j < n → has i k = true → has j l = true → InT n has tab n (mulF n (tab i k) (tab j l))) : ∀ d, d ≤ n → ∀ r s, InT n has tab d r → InT n has tab d s → InT n has tab d (mulF n r s)
  | 0, _, r, s, hr, hs => by
    have hr : r = sameF n := hr
    have hs : s = sameF n := hs
    subst hr; subst hs; exact mul_one (one_np n)
  | d + 1, hd, r, s, hr, hs => by
    have ih := InT.closed hn hT hp d (by omega)
    obtain ⟨k, hk, h, hh, rfl⟩ := hr
    have hlt : n - (d + 1) < n := by omega
    have nh := (InT.np hT (by omega) hh).1
    have nk := hT.np _ k hlt hk
    -- an entry of this level, then something later
    have key : ∀ c, c ≤ d → ∀ s', InT n has tab c s' → ∀ k, has (n - (d + 1)) k = true → ∃ h' k', InT n has tab d h' ∧ has (n - (d + 1)) k' = true ∧ mulF n (tab (n - (d + 1)) k) s' = mulF n h' (tab (n - (d + 1)) k') := by
      intro c
      induction c with
      | zero =>
        intro _ s' hs' k hk
        have hs' : s' = sameF n := hs'
        subst hs'
        refine ⟨sameF n, k, InT.one hn hT (by omega), hk, ?_⟩
        rw [mul_one (hT.np _ k hlt hk), one_mul (hT.np _ k hlt hk)]
      | succ c ihc =>
        intro hc s' hs' k hk
        obtain ⟨l, hl, g, hg, rfl⟩ := hs'
        have hlt2 : n - (c + 1) < n := by omega
        have nk := hT.np _ k hlt hk
        have ng := (InT.np hT (by omega) hg).1
        have nl := hT.np _ l hlt2 hl
        obtain ⟨h1, k1, i1, i2, e1⟩ := ihc (by omega) g hg k hk
        have nh1 := (InT.np hT (by omega) i1).1
        have nk1 := hT.np _ k1 hlt i2
        have hpr := hp _ k1 _ l hlt hlt2 i2 hl
        have hpr2 : InT n has tab (d + 1) (mulF n (tab (n - (d + 1)) k1) (tab (n - (c + 1)) l)) := by
          refine InT.downs hn hT (e := n - (d + 1)) (by omega) (by rw [show d + 1 + (n - (d + 1)) = n by omega]; exact hpr) fun j hj => ?_
          rw [mul_at (by omega), hT.fix _ k1 hlt i2 j (by omega)]
          exact hT.fix _ l hlt2 hl j (by omega)
        obtain ⟨k2, i3, h2, i4, e2⟩ := hpr2
        have nh2 := (InT.np hT (by omega) i4).1
        refine ⟨mulF n h1 h2, k2, ih h1 h2 i1 i4, i3, ?_⟩
        rw [← mul_assoc nk ng nl, e1, mul_assoc nh1 nk1 nl, e2, mul_assoc nh1 nh2 (hT.np _ k2 hlt i3)]
    obtain ⟨k', hk', h', hh', rfl⟩ := hs
    have nh' := (InT.np hT (by omega) hh').1
    have nk' := hT.np _ k' hlt hk'
    obtain ⟨h1, k1, i1, i2, e1⟩ := key d (Nat.le_refl _) h' hh' k hk
    have nh1 := (InT.np hT (by omega) i1).1
    have nk1 := hT.np _ k1 hlt i2
    have hpr2 : InT n has tab (d + 1) (mulF n (tab (n - (d + 1)) k1) (tab (n - (d + 1)) k')) := by
      refine InT.downs hn hT (e := n - (d + 1)) (by omega) (by rw [show d + 1 + (n - (d + 1)) = n by omega]; exact hp _ k1 _ k' hlt hlt i2 hk') fun j hj => ?_
      rw [mul_at (by omega), hT.fix _ k1 hlt i2 j hj]
      exact hT.fix _ k' hlt hk' j hj
    obtain ⟨k2, i3, h2, i4, e2⟩ := hpr2
    have nh2 := (InT.np hT (by omega) i4).1
    refine ⟨k2, i3, mulF n (mulF n h h1) h2, ih _ _ (ih _ _ hh i1) i4, ?_⟩
    have nk2 := hT.np _ k2 hlt i3
    rw [mul_assoc nh nk (mul_np nh' nk'), ← mul_assoc nk nh' nk', e1, mul_assoc nh1 nk1 nk', e2, ← mul_assoc nh nh1 (mul_np nh2 nk2), ← mul_assoc (mul_np nh nh1) nh2 nk2]
end Go.Proofs.Ythjnmlpibafbnaa

namespace Go.Proofs.Ythjnmlpibafbnaa
open Go.RowKit DM
set_option linter.unusedVariables false
set_option linter.unusedSimpArgs false
def itF (p : Nat → Nat) : Nat → Nat → Nat
  | 0, x => x
  | k + 1, x => p (itF p k x)
theorem it_lt {n : Nat} {p : Nat → Nat} (hp : ∀ i, i < n → p i < n) {x : Nat} (hx : x < n) : ∀ k, itF p k x < n
  | 0 => hx
  | k + 1 => hp _ (it_lt hp hx k)
theorem it_add (p : Nat → Nat) (x : Nat) (j : Nat) : ∀ k, itF p (j + k) x = itF p k (itF p j x)
  | 0 => rfl
  | k + 1 => congrArg p (it_add p x j k)
end Go.Proofs.Ythjnmlpibafbnaa

namespace Go.Proofs.Ythjnmlpibafbnaa
open Go.RowKit DM
set_option linter.unusedVariables false
set_option linter.unusedSimpArgs false
theorem it_inj {n : Nat} {p : Nat → Nat} (hp : Perm n p) {x y : Nat} (hx : x < n) (hy : y < n) : ∀ k, itF p k x = itF p k y → x = y
  | 0, h => h
  | k + 1, h => it_inj hp hx hy k (hp.inj _ _ (it_lt hp.lt hx k) (it_lt hp.lt hy k) h)
theorem it_period {n : Nat} {p : Nat → Nat} (hp : Perm n p) {x : Nat} (hx : x < n) : ∃ k, 1 ≤ k ∧ k ≤ n ∧ itF p k x = x := by
  refine Classical.byContradiction fun hno => ?_
  have hd : ∀ i j, i ≤ n → j ≤ n → i < j → itF p i x ≠ itF p j x := fun i j hi hj hij e => by
    refine hno ⟨j - i, by omega, by omega, ?_⟩
    have h1 := it_add p x (j - i) i
    rw [show j - i + i = j by omega, ← e] at h1
    exact (it_inj hp hx (it_lt hp.lt hx _) i h1).symm
  have hl := nodup_len n ((List.range (n + 1)).map fun k => itF p k x) (by
    unfold List.Nodup
    rw [List.pairwise_map]
    refine List.Pairwise.imp_of_mem ?_ List.pairwise_lt_range
    intro a b ha hb hab
    exact hd a b (by have := List.mem_range.1 ha; omega) (by have := List.mem_range.1 hb; omega) hab) fun y hy => by
      obtain ⟨k, _, rfl⟩ := List.mem_map.1 hy
      exact it_lt hp.lt hx k
  simp at hl
  omega
theorem it_mul {p : Nat → Nat} {x k : Nat} (h : itF p k x = x) : ∀ m, itF p (k * m) x = x
  | 0 => rfl
  | m + 1 => by
    rw [Nat.mul_succ, it_add, it_mul h m]; exact h
theorem dvd_all : ∀ k, k ≤ 16 → 1 ≤ k → k ∣ 720720 := by decide
theorem it_big {n : Nat} (hn : n ≤ 16) {p : Nat → Nat} (hp : Perm n p) {x : Nat} (hx : x < n) : itF p 720720 x = x := by
  obtain ⟨k, h1, h2, h3⟩ := it_period hp hx
  obtain ⟨m, e⟩ := dvd_all k (by omega) h1
  rw [e]; exact it_mul h3 m
def powF (n : Nat) (p : Nat → Nat) : Nat → Nat → Nat
  | 0 => sameF n
  | k + 1 => mulF n (powF n p k) p
theorem pow_np {n : Nat} {p : Nat → Nat} (hp : Np n p) : ∀ k, Np n (powF n p k)
  | 0 => one_np n
  | k + 1 => mul_np (pow_np hp k) hp
theorem pow_it {n : Nat} {p : Nat → Nat} {x : Nat} (hx : x < n) : ∀ k, powF n p k x = itF p k x
  | 0 => one_at hx
  | k + 1 => by simp only [powF]; rw [mul_at hx, pow_it hx k]; rfl
theorem Grp.inv {n : Nat} (hn : n ≤ 16) {gens : List (Nat → Nat)} (hg : ∀ g ∈ gens, Np n g) {p : Nat → Nat} (h : Grp n gens p) : Grp n gens (backTo p n) := by
  have hp := h.np hg
  have hpow : ∀ k, Grp n gens (powF n p k) := fun k => by
    induction k with
    | zero => exact .one
    | succ k ih => exact ih.comp hg h
  have e : backTo p n = powF n p 720719 := by
    refine np_ext (inv_np hn hp) (pow_np hp _) fun i hi => ?_
    obtain ⟨x, hx, rfl⟩ := perm_surj hn hp.perm hi
    rw [inv_back hp hx, pow_it (hp.perm.lt x hx)]
    have h1 := it_big hn hp.perm hx
    have h2 := it_add p x 1 720719
    rw [show 1 + 720719 = 720720 from rfl, h1] at h2
    exact h2
  rw [e]; exact hpow _
structure Ext (n : Nat) (has : Nat → Nat → Bool) (tab : Nat → Nat → Nat → Nat) (has' : Nat → Nat → Bool) (tab' : Nat → Nat → Nat → Nat) : Prop where
  hs : ∀ i k, i < n → has i k = true → has' i k = true
  tb : ∀ i k, i < n → has i k = true → tab' i k = tab i k
theorem InT.ext {n : Nat} {has has' : Nat → Nat → Bool} {tab tab' : Nat → Nat → Nat → Nat} (h : Ext n has tab has' tab') : ∀ {d : Nat} {r : Nat → Nat}, d ≤ n → InT n has tab d r → InT n has' tab' d r
  | 0, _, _, h => h
  | d + 1, r, hd, ⟨k, hk, g, hh, e⟩ => by
    have hlt : n - (d + 1) < n := by omega
    exact ⟨k, h.hs _ k hlt hk, g, InT.ext h (by omega) hh, by rw [h.tb _ k hlt hk]; exact e⟩
def up2 {α : Type} (f : Nat → Nat → α) (i k : Nat) (v : α) : Nat → Nat → α := fun a b => if a = i ∧ b = k then v else f a b
end Go.Proofs.Ythjnmlpibafbnaa
