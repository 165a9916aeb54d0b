import Derived.Test.YtokhjhkicledmaaL20
import Derived.Test.YtokhjhkicledmaaL18
import Derived.Test.YtokhjhkicledmaaL11
/- Groups by tables: sifting, inverses; the program's way to fill a table. -/
namespace Go.Proofs.Ytokhjhkicledmaa
open Go.RowKit DM
set_option linter.unusedVariables false
set_option linter.unusedSimpArgs false

/-! ### Inverses are powers -/
theorem it_inj {n : Nat} {p : Nat → Nat} (hp : Perm n p) {x y : Nat} (hx : x < n) (hy : y < n) : ∀ k, itF p k x = itF p k y → x = y
  | 0, h => h
  | k + 1, h => it_inj hp hx hy k (hp.inj _ _ (it_lt hp.lt hx k) (it_lt hp.lt hy k) h)

theorem it_period {n : Nat} {p : Nat → Nat} (hp : Perm n p) {x : Nat} (hx : x < n) : ∃ k, 1 ≤ k ∧ k ≤ n ∧ itF p k x = x := by
  refine Classical.byContradiction fun hno => ?_
  have hd : ∀ i j, i ≤ n → j ≤ n → i < j → itF p i x ≠ itF p j x := fun i j hi hj hij e => by
    refine hno ⟨j - i, by omega, by omega, ?_⟩
    have h1 := it_add p x (j - i) i
    rw [show j - i + i = j by omega, ← e] at h1
    exact (it_inj hp hx (it_lt hp.lt hx _) i h1).symm
  have hl := nodup_len n ((List.range (n + 1)).map fun k => itF p k x) (by
    unfold List.Nodup
    rw [List.pairwise_map]
    refine List.Pairwise.imp_of_mem ?_ List.pairwise_lt_range
    intro a b ha hb hab
    exact hd a b (by have := List.mem_range.1 ha; omega) (by have := List.mem_range.1 hb; omega) hab) fun y hy => by
      obtain ⟨k, _, rfl⟩ := List.mem_map.1 hy
      exact it_lt hp.lt hx k
  simp at hl
  omega

theorem it_mul {p : Nat → Nat} {x k : Nat} (h : itF p k x = x) : ∀ m, itF p (k * m) x = x
  | 0 => rfl
  | m + 1 => by
    rw [Nat.mul_succ, it_add, it_mul h m]; exact h

theorem dvd_all : ∀ k, k ≤ 16 → 1 ≤ k → k ∣ 720720 := by decide

theorem it_big {n : Nat} (hn : n ≤ 16) {p : Nat → Nat} (hp : Perm n p) {x : Nat} (hx : x < n) : itF p 720720 x = x := by
  obtain ⟨k, h1, h2, h3⟩ := it_period hp hx
  obtain ⟨m, e⟩ := dvd_all k (by omega) h1
  rw [e]; exact it_mul h3 m

def powF (n : Nat) (p : Nat → Nat) : Nat → Nat → Nat
  | 0 => sameF n
  | k + 1 => mulF n (powF n p k) p
theorem pow_np {n : Nat} {p : Nat → Nat} (hp : Np n p) : ∀ k, Np n (powF n p k)
  | 0 => one_np n
  | k + 1 => mul_np (pow_np hp k) hp
theorem pow_it {n : Nat} {p : Nat → Nat} {x : Nat} (hx : x < n) : ∀ k, powF n p k x = itF p k x
  | 0 => one_at hx
  | k + 1 => by simp only [powF]; rw [mul_at hx, pow_it hx k]; rfl

theorem Grp.inv {n : Nat} (hn : n ≤ 16) {gens : List (Nat → Nat)} (hg : ∀ g ∈ gens, Np n g) {p : Nat → Nat} (h : Grp n gens p) : Grp n gens (backTo p n) := by
  have hp := h.np hg
  have hpow : ∀ k, Grp n gens (powF n p k) := fun k => by
    induction k with
    | zero => exact .one
    | succ k ih => exact ih.comp hg h
  have e : backTo p n = powF n p 720719 := by
    refine np_ext (inv_np hn hp) (pow_np hp _) fun i hi => ?_
    obtain ⟨x, hx, rfl⟩ := perm_surj hn hp.perm hi
    rw [inv_back hp hx, pow_it (hp.perm.lt x hx)]
    have h1 := it_big hn hp.perm hx
    have h2 := it_add p x 1 720719
    rw [show 1 + 720719 = 720720 from rfl, h1] at h2
    exact h2
  rw [e]; exact hpow _

/-! ### Sifting -/
/-- What is left of p at level n - d, and the level where it stops. -/
def siftF (n : Nat) (has : Nat → Nat → Bool) (tab : Nat → Nat → Nat → Nat) : Nat → (Nat → Nat) → (Nat → Nat) × Nat
  | 0, p => (p, n)
  | d + 1, p => bif has (n - (d + 1)) (p (n - (d + 1))) then siftF n has tab d (if p (n - (d + 1)) = n - (d + 1) then p else mulF n p (backTo (tab (n - (d + 1)) (p (n - (d + 1)))) n)) else (p, n - (d + 1))

/-- A greater table. -/
structure Ext (n : Nat) (has : Nat → Nat → Bool) (tab : Nat → Nat → Nat → Nat) (has' : Nat → Nat → Bool) (tab' : Nat → Nat → Nat → Nat) : Prop where
  hs : ∀ i k, i < n → has i k = true → has' i k = true
  tb : ∀ i k, i < n → has i k = true → tab' i k = tab i k

theorem InT.ext {n : Nat} {has has' : Nat → Nat → Bool} {tab tab' : Nat → Nat → Nat → Nat} (h : Ext n has tab has' tab') : ∀ {d : Nat} {r : Nat → Nat}, d ≤ n → InT n has tab d r → InT n has' tab' d r
  | 0, _, _, h => h
  | d + 1, r, hd, ⟨k, hk, g, hh, e⟩ => by
    have hlt : n - (d + 1) < n := by omega
    exact ⟨k, h.hs _ k hlt hk, g, InT.ext h (by omega) hh, by rw [h.tb _ k hlt hk]; exact e⟩

theorem sift_next {n : Nat} (hn : n ≤ 16) {has : Nat → Nat → Bool} {tab : Nat → Nat → Nat → Nat} (hT : TblOk n has tab) {i : Nat} (hi : i < n) {p : Nat → Nat} (hp : Np n p) : (if p i = i then p else mulF n p (backTo (tab i (p i)) n)) = mulF n p (backTo (tab i (p i)) n) := by
  by_cases e : p i = i
  · rw [if_pos e, e, (hT.diag i hi).2, inv_one hn, mul_one hp]
  · rw [if_neg e]

structure Left (n : Nat) (has : Nat → Nat → Bool) (tab : Nat → Nat → Nat → Nat) (d : Nat) (p r : Nat → Nat) (l : Nat) : Prop where
  lt : l < n
  np : Np n r
  fix : ∀ j, j < l → r j = j
  no : has l (r l) = false
  grp : ∀ gens : List (Nat → Nat), (∀ g ∈ gens, Np n g) → (∀ i k, i < n → has i k = true → Grp n gens (tab i k)) → Grp n gens p → Grp n gens r
  new : ∀ has' tab', TblOk n has' tab' → Ext n has tab has' tab' → has' l (r l) = true → tab' l (r l) = r → InT n has' tab' d p

theorem sift_ok {n : Nat} (hn : n ≤ 16) {has : Nat → Nat → Bool} {tab : Nat → Nat → Nat → Nat} (hT : TblOk n has tab) : ∀ d, d ≤ n → ∀ p, Np n p → (∀ j, j < n - d → p j = j) →
    ((siftF n has tab d p).2 = n ∧ InT n has tab d p) ∨ Left n has tab d p (siftF n has tab d p).1 (siftF n has tab d p).2
  | 0, _, p, hp, hf => .inl ⟨rfl, np_ext hp (one_np n) fun i hi => by rw [hf i (by omega), one_at hi]⟩
  | d + 1, hd, p, hp, hf => by
    have hlt : n - (d + 1) < n := by omega
    simp only [siftF]
    cases hh : has (n - (d + 1)) (p (n - (d + 1))) with
    | false =>
      simp only [cond_false]
      refine .inr ⟨hlt, hp, hf, hh, fun gens _ _ h => h, fun has' tab' hT' hE h1 h2 => ?_⟩
      exact ⟨p (n - (d + 1)), h1, sameF n, InT.one hn hT' (by omega), by rw [h2, one_mul hp]⟩
    | true =>
      simp only [cond_true]
      rw [sift_next hn hT hlt hp]
      have hk := hT.np _ _ hlt hh
      have hm := mul_np hp (inv_np hn hk)
      have hf' : ∀ j, j < n - d → mulF n p (backTo (tab (n - (d + 1)) (p (n - (d + 1)))) n) j = j := fun j hj => by
        have hjn : j < n := by omega
        rw [mul_at hjn]
        by_cases e : j < n - (d + 1)
        · rw [hf j e]
          have h1 := hT.fix _ _ hlt hh j e
          have h2 := inv_back hk hjn
          rwa [h1] at h2
        · have e : j = n - (d + 1) := by omega
          subst e
          have h1 := hT.at_ _ _ hlt hh
          have h2 := inv_back hk hlt
          rwa [h1] at h2
      rcases sift_ok hn hT d (by omega) _ hm hf' with ⟨h1, h2⟩ | h
      · exact .inl ⟨h1, (InT.peel hn hT hd).2 ⟨hp, hh, h2⟩⟩
      · refine .inr ⟨h.lt, h.np, h.fix, h.no, fun gens hg hin hG => h.grp gens hg hin (hG.comp hg ((hin _ _ hlt hh).inv hn hg)), fun has' tab' hT' hE h1 h2 => ?_⟩
        refine (InT.peel hn hT' hd).2 ⟨hp, hE.hs _ _ hlt hh, ?_⟩
        rw [hE.tb _ _ hlt hh]
        exact h.new has' tab' hT' hE h1 h2

/-! ### Filling -/
def up2 {α : Type} (f : Nat → Nat → α) (i k : Nat) (v : α) : Nat → Nat → α := fun a b => if a = i ∧ b = k then v else f a b
theorem up2_same {α : Type} (f : Nat → Nat → α) (i k : Nat) (v : α) : up2 f i k v i k = v := by unfold up2; rw [if_pos ⟨rfl, rfl⟩]
theorem up2_ne {α : Type} (f : Nat → Nat → α) {i k a b : Nat} (v : α) (h : ¬ (a = i ∧ b = k)) : up2 f i k v a b = f a b := by unfold up2; rw [if_neg h]

theorem tbl_add {n : Nat} {has : Nat → Nat → Bool} {tab : Nat → Nat → Nat → Nat} (hT : TblOk n has tab) {l : Nat} {r : Nat → Nat} (hl : l < n) (hr : Np n r) (hf : ∀ j, j < l → r j = j) (hno : has l (r l) = false) :
    TblOk n (up2 has l (r l) true) (up2 tab l (r l) r) ∧ Ext n has tab (up2 has l (r l) true) (up2 tab l (r l) r) := by
  have hne : ∀ i k, has i k = true → ¬ (i = l ∧ k = r l) := fun i k h e => by rw [e.1, e.2, hno] at h; cases h
  refine ⟨⟨fun i hi => ?_, fun i k hi h => ?_, fun i k hi h => ?_, fun i k hi h => ?_, fun i k hi h => ?_⟩, fun i k _ h => by rw [up2_ne _ _ (hne i k h)]; exact h, fun i k _ h => up2_ne _ _ (hne i k h)⟩
  · obtain ⟨h1, h2⟩ := hT.diag i hi
    rw [up2_ne _ _ (hne i i h1), up2_ne _ _ (hne i i h1)]
    exact ⟨h1, h2⟩
  · by_cases e : i = l ∧ k = r l
    · obtain ⟨rfl, rfl⟩ := e; exact hr.perm.lt i hi
    · rw [up2_ne _ _ e] at h; exact hT.lt i k hi h
  · by_cases e : i = l ∧ k = r l
    · obtain ⟨rfl, rfl⟩ := e; rw [up2_same]; exact hr
    · rw [up2_ne _ _ e] at h ⊢; exact hT.np i k hi h
  · by_cases e : i = l ∧ k = r l
    · obtain ⟨rfl, rfl⟩ := e; rw [up2_same]; exact hf
    · rw [up2_ne _ _ e] at h ⊢; exact hT.fix i k hi h
  · by_cases e : i = l ∧ k = r l
    · obtain ⟨rfl, rfl⟩ := e; rw [up2_same]
    · rw [up2_ne _ _ e] at h ⊢; exact hT.at_ i k hi h

end Go.Proofs.Ytokhjhkicledmaa
