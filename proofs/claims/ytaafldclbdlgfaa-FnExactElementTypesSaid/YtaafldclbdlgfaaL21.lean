import Derived.Test.YtaafldclbdlgfaaL20
/- Parity: a permutation's numbers less its cycles. -/
namespace Go.Proofs.Ytaafldclbdlgfaa
open Go.RowKit DM
set_option linter.unusedVariables false
set_option linter.unusedSimpArgs false

/-- p, k times. -/
def itF (p : Nat → Nat) : Nat → Nat → Nat
  | 0, x => x
  | k + 1, x => p (itF p k x)
theorem it_lt {n : Nat} {p : Nat → Nat} (hp : ∀ i, i < n → p i < n) {x : Nat} (hx : x < n) : ∀ k, itF p k x < n
  | 0 => hx
  | k + 1 => hp _ (it_lt hp hx k)
theorem it_add (p : Nat → Nat) (x : Nat) (j : Nat) : ∀ k, itF p (j + k) x = itF p k (itF p j x)
  | 0 => rfl
  | k + 1 => congrArg p (it_add p x j k)

end Go.Proofs.Ytaafldclbdlgfaa

/- Types of permutations: the lengths of the cycles, sorted downwards, and counted downwards. -/
namespace Go.Proofs.Ytaafldclbdlgfaa
open Go.RowKit DM
set_option linter.unusedVariables false

def srtN (l : List Nat) : List Nat := l.mergeSort fun x y => decide (x ≤ y)

theorem srtN_len (l : List Nat) : (srtN l).length = l.length := (List.mergeSort_perm _ _).length_eq

/-- How many lists have each length, i lists being counted. -/
def cTo (L : List (List Nat)) : Nat → Nat → Nat
  | 0 => fun _ => 0
  | i + 1 => up (cTo L i) (L.getD i []).length (cTo L i (L.getD i []).length + 1)

theorem cTo_count (L : List (List Nat)) : ∀ i, i ≤ L.length → ∀ k, cTo L i k = ((L.take i).map List.length).count k
  | 0, _, k => by simp [cTo]
  | i + 1, h, k => by
    have e : L.getD i [] = L[i] := by rw [List.getD_eq_getElem?_getD, List.getElem?_eq_getElem (by omega)]; rfl
    rw [List.take_add_one, List.getElem?_eq_getElem (by omega : i < L.length)]
    simp only [cTo, up, Option.toList_some, List.map_append, List.map_cons, List.map_nil, List.count_append, List.count_singleton]
    rw [e]
    have ih := fun k => cTo_count L i (by omega) k
    by_cases c : k = L[i].length
    · rw [if_pos c, if_pos (by simpa using c.symm), ← c, ih]
    · rw [if_neg c, if_neg (by simpa using fun h => c h.symm), ih]; rfl

/-- The counted numbers from n down, m of them. -/
def dTo (c : Nat → Nat) (n : Nat) : Nat → List Nat
  | 0 => []
  | m + 1 => dTo c n m ++ List.replicate (c (n - m)) (n - m)

theorem dTo_count (c : Nat → Nat) (n : Nat) : ∀ m, m ≤ n → ∀ k, (dTo c n m).count k = if n - m < k ∧ k ≤ n then c k else 0
  | 0, _, k => by
    simp only [dTo, List.count_nil]
    rw [if_neg (by omega)]
  | m + 1, h, k => by
    simp only [dTo, List.count_append, dTo_count c n m (by omega) k, List.count_replicate]
    by_cases e : n - m = k
    · subst e
      rw [if_neg (by omega), if_pos (by simp), if_pos (by omega)]; omega
    · rw [if_neg (show ¬ (n - m == k) = true by simpa using e)]
      by_cases e2 : n - m < k ∧ k ≤ n
      · rw [if_pos e2, if_pos (by omega)]; rfl
      · rw [if_neg e2, if_neg (by omega)]

theorem dTo_mem (c : Nat → Nat) (n : Nat) : ∀ m, m ≤ n → ∀ x ∈ dTo c n m, n - m < x ∧ x ≤ n
  | 0, _, x, hx => by simp [dTo] at hx
  | m + 1, h, x, hx => by
    simp only [dTo, List.mem_append, List.mem_replicate] at hx
    rcases hx with hx | ⟨_, rfl⟩
    · have := dTo_mem c n m (by omega) x hx; omega
    · omega

theorem dTo_sorted (c : Nat → Nat) (n : Nat) : ∀ m, m ≤ n → (dTo c n m).Pairwise (fun x y => y ≤ x)
  | 0, _ => List.Pairwise.nil
  | m + 1, h => by
    simp only [dTo]
    rw [List.pairwise_append]
    refine ⟨dTo_sorted c n m (by omega), ?_, fun x hx y hy => ?_⟩
    · rw [List.pairwise_replicate]; exact .inr (Nat.le_refl _)
    · have := dTo_mem c n m (by omega) x hx
      have := List.eq_of_mem_replicate hy
      omega

def tyN (L : List (List Nat)) (n : Nat) : List Nat := dTo (cTo L L.length) n n

/-- Sorted and turned round is counted downwards. -/
theorem ty_eq {L : List (List Nat)} {n : Nat} (h : ∀ l ∈ L, 1 ≤ l.length ∧ l.length ≤ n) : (srtN (L.map List.length)).reverse = tyN L n := by
  refine List.Perm.eq_of_pairwise (le := fun x y => y ≤ x) (fun a b _ _ h1 h2 => Nat.le_antisymm h2 h1) ?_ (dTo_sorted _ _ _ (Nat.le_refl _)) ?_
  · rw [List.pairwise_reverse]
    have := List.pairwise_mergeSort (le := fun x y : Nat => decide (x ≤ y)) (fun a b c h1 h2 => by simp at *; omega) (fun a b => by simp; omega) (L.map List.length)
    exact this.imp fun h => of_decide_eq_true h
  · refine ((List.reverse_perm _).trans (List.mergeSort_perm _ _)).trans ?_
    rw [List.perm_iff_count]
    intro k
    unfold tyN
    rw [dTo_count _ _ _ (Nat.le_refl _), cTo_count L _ (Nat.le_refl _), List.take_length]
    by_cases e : n - n < k ∧ k ≤ n
    · rw [if_pos e]
    · rw [if_neg e, List.count_eq_zero]
      intro hk
      obtain ⟨l, hl, rfl⟩ := List.mem_map.1 hk
      have := h l hl
      omega

theorem tyN_len {L : List (List Nat)} {n : Nat} (h : ∀ l ∈ L, 1 ≤ l.length ∧ l.length ≤ n) : (tyN L n).length = L.length := by
  rw [← ty_eq h, List.length_reverse, srtN_len, List.length_map]

theorem nodup_len : ∀ (n : Nat) (l : List Nat), l.Nodup → (∀ x ∈ l, x < n) → l.length ≤ n
  | 0, l, _, h => by
    cases l with
    | nil => simp
    | cons a l => exact absurd (h a (by simp)) (Nat.not_lt_zero _)
  | n + 1, l, hd, h => by
    by_cases hn : n ∈ l
    · have h1 := nodup_len n (l.erase n) (hd.erase n) fun x hx => by
        have h2 := h x (List.mem_of_mem_erase hx)
        have h3 : x ≠ n := fun e => by subst e; exact hd.not_mem_erase hx
        omega
      have h2 := List.length_erase_of_mem hn
      omega
    · have := nodup_len n l hd fun x hx => by
        have h2 := h x hx
        have h3 : x ≠ n := fun e => by subst e; exact hn hx
        omega
      omega

/-- Cycles' lengths lie between 1 and n. -/
theorem cycs_lens {n : Nat} (hn : n ≤ 16) {p : Nat → Nat} (hp : Perm n p) : ∀ l ∈ cycs p n, 1 ≤ l.length ∧ l.length ≤ n := by
  have h := cyTo_inv hn hp n (Nat.le_refl _)
  intro l hl
  obtain ⟨j, hj, e⟩ := List.mem_iff_getElem.1 hl
  have e2 : (cycs p n).getD j [] = l := by rw [List.getD_eq_getElem?_getD, List.getElem?_eq_getElem hj]; exact e
  have h1 := h.pos j hj
  have h2 := h.nodup j
  have h3 := h.lt j
  change 0 < ((cycs p n).getD j []).length at h1
  change ((cycs p n).getD j []).Nodup at h2
  change ∀ x, x ∈ (cycs p n).getD j [] → x < n at h3
  rw [e2] at h1 h2 h3
  refine ⟨h1, ?_⟩
  exact nodup_len n l h2 h3

end Go.Proofs.Ytaafldclbdlgfaa

/- Groups by tables: sifting, inverses; the program's way to fill a table. -/
namespace Go.Proofs.Ytaafldclbdlgfaa
open Go.RowKit DM
set_option linter.unusedVariables false
set_option linter.unusedSimpArgs false

/-! ### Inverses are powers -/
theorem it_inj {n : Nat} {p : Nat → Nat} (hp : Perm n p) {x y : Nat} (hx : x < n) (hy : y < n) : ∀ k, itF p k x = itF p k y → x = y
  | 0, h => h
  | k + 1, h => it_inj hp hx hy k (hp.inj _ _ (it_lt hp.lt hx k) (it_lt hp.lt hy k) h)

theorem it_period {n : Nat} {p : Nat → Nat} (hp : Perm n p) {x : Nat} (hx : x < n) : ∃ k, 1 ≤ k ∧ k ≤ n ∧ itF p k x = x := by
  refine Classical.byContradiction fun hno => ?_
  have hd : ∀ i j, i ≤ n → j ≤ n → i < j → itF p i x ≠ itF p j x := fun i j hi hj hij e => by
    refine hno ⟨j - i, by omega, by omega, ?_⟩
    have h1 := it_add p x (j - i) i
    rw [show j - i + i = j by omega, ← e] at h1
    exact (it_inj hp hx (it_lt hp.lt hx _) i h1).symm
  have hl := nodup_len n ((List.range (n + 1)).map fun k => itF p k x) (by
    unfold List.Nodup
    rw [List.pairwise_map]
    refine List.Pairwise.imp_of_mem ?_ List.pairwise_lt_range
    intro a b ha hb hab
    exact hd a b (by have := List.mem_range.1 ha; omega) (by have := List.mem_range.1 hb; omega) hab) fun y hy => by
      obtain ⟨k, _, rfl⟩ := List.mem_map.1 hy
      exact it_lt hp.lt hx k
  simp at hl
  omega

theorem it_mul {p : Nat → Nat} {x k : Nat} (h : itF p k x = x) : ∀ m, itF p (k * m) x = x
  | 0 => rfl
  | m + 1 => by
    rw [Nat.mul_succ, it_add, it_mul h m]; exact h

theorem dvd_all : ∀ k, k ≤ 16 → 1 ≤ k → k ∣ 720720 := by decide

theorem it_big {n : Nat} (hn : n ≤ 16) {p : Nat → Nat} (hp : Perm n p) {x : Nat} (hx : x < n) : itF p 720720 x = x := by
  obtain ⟨k, h1, h2, h3⟩ := it_period hp hx
  obtain ⟨m, e⟩ := dvd_all k (by omega) h1
  rw [e]; exact it_mul h3 m

def powF (n : Nat) (p : Nat → Nat) : Nat → Nat → Nat
  | 0 => sameF n
  | k + 1 => mulF n (powF n p k) p
theorem pow_np {n : Nat} {p : Nat → Nat} (hp : Np n p) : ∀ k, Np n (powF n p k)
  | 0 => one_np n
  | k + 1 => mul_np (pow_np hp k) hp
theorem pow_it {n : Nat} {p : Nat → Nat} {x : Nat} (hx : x < n) : ∀ k, powF n p k x = itF p k x
  | 0 => one_at hx
  | k + 1 => by simp only [powF]; rw [mul_at hx, pow_it hx k]; rfl

theorem Grp.inv {n : Nat} (hn : n ≤ 16) {gens : List (Nat → Nat)} (hg : ∀ g ∈ gens, Np n g) {p : Nat → Nat} (h : Grp n gens p) : Grp n gens (backTo p n) := by
  have hp := h.np hg
  have hpow : ∀ k, Grp n gens (powF n p k) := fun k => by
    induction k with
    | zero => exact .one
    | succ k ih => exact ih.comp hg h
  have e : backTo p n = powF n p 720719 := by
    refine np_ext (inv_np hn hp) (pow_np hp _) fun i hi => ?_
    obtain ⟨x, hx, rfl⟩ := perm_surj hn hp.perm hi
    rw [inv_back hp hx, pow_it (hp.perm.lt x hx)]
    have h1 := it_big hn hp.perm hx
    have h2 := it_add p x 1 720719
    rw [show 1 + 720719 = 720720 from rfl, h1] at h2
    exact h2
  rw [e]; exact hpow _

/-! ### Sifting -/
/-- What is left of p at level n - d, and the level where it stops. -/
def siftF (n : Nat) (has : Nat → Nat → Bool) (tab : Nat → Nat → Nat → Nat) : Nat → (Nat → Nat) → (Nat → Nat) × Nat
  | 0, p => (p, n)
  | d + 1, p => bif has (n - (d + 1)) (p (n - (d + 1))) then siftF n has tab d (if p (n - (d + 1)) = n - (d + 1) then p else mulF n p (backTo (tab (n - (d + 1)) (p (n - (d + 1)))) n)) else (p, n - (d + 1))

/-- A greater table. -/
structure Ext (n : Nat) (has : Nat → Nat → Bool) (tab : Nat → Nat → Nat → Nat) (has' : Nat → Nat → Bool) (tab' : Nat → Nat → Nat → Nat) : Prop where
  hs : ∀ i k, i < n → has i k = true → has' i k = true
  tb : ∀ i k, i < n → has i k = true → tab' i k = tab i k

theorem InT.ext {n : Nat} {has has' : Nat → Nat → Bool} {tab tab' : Nat → Nat → Nat → Nat} (h : Ext n has tab has' tab') : ∀ {d : Nat} {r : Nat → Nat}, d ≤ n → InT n has tab d r → InT n has' tab' d r
  | 0, _, _, h => h
  | d + 1, r, hd, ⟨k, hk, g, hh, e⟩ => by
    have hlt : n - (d + 1) < n := by omega
    exact ⟨k, h.hs _ k hlt hk, g, InT.ext h (by omega) hh, by rw [h.tb _ k hlt hk]; exact e⟩

theorem sift_next {n : Nat} (hn : n ≤ 16) {has : Nat → Nat → Bool} {tab : Nat → Nat → Nat → Nat} (hT : TblOk n has tab) {i : Nat} (hi : i < n) {p : Nat → Nat} (hp : Np n p) : (if p i = i then p else mulF n p (backTo (tab i (p i)) n)) = mulF n p (backTo (tab i (p i)) n) := by
  by_cases e : p i = i
  · rw [if_pos e, e, (hT.diag i hi).2, inv_one hn, mul_one hp]
  · rw [if_neg e]

structure Left (n : Nat) (has : Nat → Nat → Bool) (tab : Nat → Nat → Nat → Nat) (d : Nat) (p r : Nat → Nat) (l : Nat) : Prop where
  lt : l < n
  np : Np n r
  fix : ∀ j, j < l → r j = j
  no : has l (r l) = false
  grp : ∀ gens : List (Nat → Nat), (∀ g ∈ gens, Np n g) → (∀ i k, i < n → has i k = true → Grp n gens (tab i k)) → Grp n gens p → Grp n gens r
  new : ∀ has' tab', TblOk n has' tab' → Ext n has tab has' tab' → has' l (r l) = true → tab' l (r l) = r → InT n has' tab' d p

theorem sift_ok {n : Nat} (hn : n ≤ 16) {has : Nat → Nat → Bool} {tab : Nat → Nat → Nat → Nat} (hT : TblOk n has tab) : ∀ d, d ≤ n → ∀ p, Np n p → (∀ j, j < n - d → p j = j) →
    ((siftF n has tab d p).2 = n ∧ InT n has tab d p) ∨ Left n has tab d p (siftF n has tab d p).1 (siftF n has tab d p).2
  | 0, _, p, hp, hf => .inl ⟨rfl, np_ext hp (one_np n) fun i hi => by rw [hf i (by omega), one_at hi]⟩
  | d + 1, hd, p, hp, hf => by
    have hlt : n - (d + 1) < n := by omega
    simp only [siftF]
    cases hh : has (n - (d + 1)) (p (n - (d + 1))) with
    | false =>
      simp only [cond_false]
      refine .inr ⟨hlt, hp, hf, hh, fun gens _ _ h => h, fun has' tab' hT' hE h1 h2 => ?_⟩
      exact ⟨p (n - (d + 1)), h1, sameF n, InT.one hn hT' (by omega), by rw [h2, one_mul hp]⟩
    | true =>
      simp only [cond_true]
      rw [sift_next hn hT hlt hp]
      have hk := hT.np _ _ hlt hh
      have hm := mul_np hp (inv_np hn hk)
      have hf' : ∀ j, j < n - d → mulF n p (backTo (tab (n - (d + 1)) (p (n - (d + 1)))) n) j = j := fun j hj => by
        have hjn : j < n := by omega
        rw [mul_at hjn]
        by_cases e : j < n - (d + 1)
        · rw [hf j e]
          have h1 := hT.fix _ _ hlt hh j e
          have h2 := inv_back hk hjn
          rwa [h1] at h2
        · have e : j = n - (d + 1) := by omega
          subst e
          have h1 := hT.at_ _ _ hlt hh
          have h2 := inv_back hk hlt
          rwa [h1] at h2
      rcases sift_ok hn hT d (by omega) _ hm hf' with ⟨h1, h2⟩ | h
      · exact .inl ⟨h1, (InT.peel hn hT hd).2 ⟨hp, hh, h2⟩⟩
      · refine .inr ⟨h.lt, h.np, h.fix, h.no, fun gens hg hin hG => h.grp gens hg hin (hG.comp hg ((hin _ _ hlt hh).inv hn hg)), fun has' tab' hT' hE h1 h2 => ?_⟩
        refine (InT.peel hn hT' hd).2 ⟨hp, hE.hs _ _ hlt hh, ?_⟩
        rw [hE.tb _ _ hlt hh]
        exact h.new has' tab' hT' hE h1 h2

/-! ### Filling -/
def up2 {α : Type} (f : Nat → Nat → α) (i k : Nat) (v : α) : Nat → Nat → α := fun a b => if a = i ∧ b = k then v else f a b
theorem up2_same {α : Type} (f : Nat → Nat → α) (i k : Nat) (v : α) : up2 f i k v i k = v := by unfold up2; rw [if_pos ⟨rfl, rfl⟩]
theorem up2_ne {α : Type} (f : Nat → Nat → α) {i k a b : Nat} (v : α) (h : ¬ (a = i ∧ b = k)) : up2 f i k v a b = f a b := by unfold up2; rw [if_neg h]

theorem tbl_add {n : Nat} {has : Nat → Nat → Bool} {tab : Nat → Nat → Nat → Nat} (hT : TblOk n has tab) {l : Nat} {r : Nat → Nat} (hl : l < n) (hr : Np n r) (hf : ∀ j, j < l → r j = j) (hno : has l (r l) = false) :
    TblOk n (up2 has l (r l) true) (up2 tab l (r l) r) ∧ Ext n has tab (up2 has l (r l) true) (up2 tab l (r l) r) := by
  have hne : ∀ i k, has i k = true → ¬ (i = l ∧ k = r l) := fun i k h e => by rw [e.1, e.2, hno] at h; cases h
  refine ⟨⟨fun i hi => ?_, fun i k hi h => ?_, fun i k hi h => ?_, fun i k hi h => ?_, fun i k hi h => ?_⟩, fun i k _ h => by rw [up2_ne _ _ (hne i k h)]; exact h, fun i k _ h => up2_ne _ _ (hne i k h)⟩
  · obtain ⟨h1, h2⟩ := hT.diag i hi
    rw [up2_ne _ _ (hne i i h1), up2_ne _ _ (hne i i h1)]
    exact ⟨h1, h2⟩
  · by_cases e : i = l ∧ k = r l
    · obtain ⟨rfl, rfl⟩ := e; exact hr.perm.lt i hi
    · rw [up2_ne _ _ e] at h; exact hT.lt i k hi h
  · by_cases e : i = l ∧ k = r l
    · obtain ⟨rfl, rfl⟩ := e; rw [up2_same]; exact hr
    · rw [up2_ne _ _ e] at h ⊢; exact hT.np i k hi h
  · by_cases e : i = l ∧ k = r l
    · obtain ⟨rfl, rfl⟩ := e; rw [up2_same]; exact hf
    · rw [up2_ne _ _ e] at h ⊢; exact hT.fix i k hi h
  · by_cases e : i = l ∧ k = r l
    · obtain ⟨rfl, rfl⟩ := e; rw [up2_same]
    · rw [up2_ne _ _ e] at h ⊢; exact hT.at_ i k hi h

end Go.Proofs.Ytaafldclbdlgfaa
