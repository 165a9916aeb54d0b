import Derived.Test.YtakapfgjdhliaaaL22
import Derived.Test.YtakapfgjdhliaaaD34
/- Groups by tables: the reference's chain. -/
namespace Go.Proofs.Ytakapfgjdhliaaa
open Go.RowKit DM
set_option linter.unusedVariables false
set_option linter.unusedSimpArgs false

/-- A chain: permutations for each level, and a table. -/
structure Chn where
  gens : Nat → List (Nat → Nat)
  has : Nat → Nat → Bool
  tab : Nat → Nat → Nat → Nat

structure CI (n : Nat) (C : Chn) : Prop where
  T : TblOk n C.has C.tab
  lvl : ∀ i k, i < n → C.has i k = true → Grp n (C.gens i) (C.tab i k)
  gnp : ∀ i, i < n → ∀ g ∈ C.gens i, Np n g ∧ ∀ j, j < i → g j = j
  sub : ∀ i, i + 1 < n → ∀ g ∈ C.gens (i + 1), Grp n (C.gens i) g

/-- Of the levels from k on. -/
def InS (n : Nat) (C : Chn) (k : Nat) (r : Nat → Nat) : Prop := InT n C.has C.tab (n - k) r
def Clo (n : Nat) (C : Chn) (k : Nat) : Prop := ∀ y, C.has k y = true → ∀ g ∈ C.gens k, InS n C k (mulF n (C.tab k y) g)
abbrev ExtC (n : Nat) (C D : Chn) : Prop := Ext n C.has C.tab D.has D.tab

theorem Ext.refl {n : Nat} {has : Nat → Nat → Bool} {tab : Nat → Nat → Nat → Nat} : Ext n has tab has tab := ⟨fun _ _ _ h => h, fun _ _ _ _ => rfl⟩
theorem Ext.trans {n : Nat} {h1 h2 h3 : Nat → Nat → Bool} {t1 t2 t3 : Nat → Nat → Nat → Nat} (a : Ext n h1 t1 h2 t2) (b : Ext n h2 t2 h3 t3) : Ext n h1 t1 h3 t3 :=
  ⟨fun i k hi h => b.hs i k hi (a.hs i k hi h), fun i k hi h => (b.tb i k hi (a.hs i k hi h)).trans (a.tb i k hi h)⟩
theorem InS.ext {n : Nat} {C D : Chn} (h : ExtC n C D) {k : Nat} {r : Nat → Nat} (hr : InS n C k r) : InS n D k r := InT.ext h (Nat.sub_le _ _) hr

theorem cnt_mono {a b : Nat → Bool} : ∀ m, (∀ k, k < m → a k = true → b k = true) → cntU m b ≤ cntU m a
  | 0, _ => Nat.le_refl _
  | m + 1, h => by
    have ih := cnt_mono m fun k hk => h k (by omega)
    have hm := h m (by omega)
    simp only [cntU]
    cases ha : a m <;> cases hb : b m <;> simp_all <;> omega
theorem cnt_less {a b : Nat → Bool} {y : Nat} : ∀ m, (∀ k, k < m → a k = true → b k = true) → y < m → a y = false → b y = true → cntU m b + 1 ≤ cntU m a
  | 0, _, h, _, _ => absurd h (Nat.not_lt_zero _)
  | m + 1, h, hy, h1, h2 => by
    have ih := cnt_mono m fun k hk => h k (by omega)
    simp only [cntU]
    by_cases e : y = m
    · subst e; rw [h1, h2]; simp; omega
    · have ih2 := cnt_less m (fun k hk => h k (by omega)) (by omega) h1 h2
      have hm := h m (by omega)
      cases ha : a m <;> cases hb : b m <;> simp_all <;> omega
theorem free_ext {n : Nat} {has has' : Nat → Nat → Bool} : ∀ m, m ≤ n → (∀ i k, i < n → has i k = true → has' i k = true) → freeF has' m ≤ freeF has m
  | 0, _, _ => Nat.le_refl _
  | m + 1, hm, h => by
    have ih := free_ext m (by omega) h
    have := cnt_mono (a := has m) (b := has' m) 16 fun k _ => h m k (by omega)
    simp only [freeF]; omega
theorem free_more {n : Nat} {has has' : Nat → Nat → Bool} {l y : Nat} (hy : y < 16) (h1 : has l y = false) (h2 : has' l y = true) : ∀ m, m ≤ n → (∀ i k, i < n → has i k = true → has' i k = true) → l < m → freeF has' m + 1 ≤ freeF has m
  | 0, _, _, h => absurd h (Nat.not_lt_zero _)
  | m + 1, hm, h, hl => by
    have ih := free_ext m (by omega) h
    simp only [freeF]
    by_cases e : l = m
    · subst e
      have := cnt_less (a := has l) (b := has' l) 16 (fun k _ => h l k (by omega)) hy h1 h2
      omega
    · have ih2 := free_more hy h1 h2 m (by omega) h (by omega)
      have := cnt_mono (a := has m) (b := has' m) 16 fun k _ => h m k (by omega)
      omega

/-- A table that is not greater has no more products. -/
theorem InT.less {n : Nat} {has has' : Nat → Nat → Bool} {tab tab' : Nat → Nat → Nat → Nat} (he : Ext n has tab has' tab') (hs : ∀ i k, i < n → has' i k = true → has i k = true) : ∀ {d : Nat} {r : Nat → Nat}, d ≤ n → InT n has' tab' d r → InT n has tab d r
  | 0, _, _, h => h
  | d + 1, r, hd, ⟨k, hk, g, hh, e⟩ => by
    have hlt : n - (d + 1) < n := by omega
    have h1 := hs _ k hlt hk
    exact ⟨k, h1, g, InT.less he hs (by omega) hh, by rw [← he.tb _ k hlt h1]; exact e⟩

theorem free_new {n : Nat} (hn : n ≤ 16) {C D : Chn} (hT : TblOk n D.has D.tab) (he : ExtC n C D) {k : Nat} {p : Nat → Nat} (h1 : ¬ InS n C k p) (h2 : InS n D k p) : freeF D.has n + 1 ≤ freeF C.has n := by
  refine Classical.byContradiction fun hno => h1 (InT.less he (fun i y hi hy => ?_) (Nat.sub_le _ _) h2)
  cases hc : C.has i y with
  | true => rfl
  | false => exact absurd (free_more (has := C.has) (has' := D.has) (l := i) (y := y) (by have := hT.lt i y hi hy; omega) hc hy n (Nat.le_refl _) he.hs hi) hno

theorem Grp.mono {n : Nat} {L L' : List (Nat → Nat)} (h : ∀ g ∈ L, g ∈ L') {p : Nat → Nat} (hp : Grp n L p) : Grp n L' p := by
  induction hp with
  | one => exact .one
  | mul _ hm ih => exact .mul ih (h _ hm)
/-- Products of members are members. -/
theorem Grp.sub {n : Nat} {L L' : List (Nat → Nat)} (hg : ∀ g ∈ L', Np n g) (h : ∀ g ∈ L, Grp n L' g) {p : Nat → Nat} (hp : Grp n L p) : Grp n L' p := by
  induction hp with
  | one => exact .one
  | mul _ hm ih => exact ih.comp hg (h _ hm)

theorem CI.gn {n : Nat} {C : Chn} (h : CI n C) {k : Nat} (hk : k < n) : ∀ g ∈ C.gens k, Np n g := fun g hg => (h.gnp k hk g hg).1
theorem CI.fix {n : Nat} {C : Chn} (h : CI n C) {k : Nat} (hk : k < n) {p : Nat → Nat} (hp : Grp n (C.gens k) p) : ∀ j, j < k → p j = j := by
  induction hp with
  | one => exact fun j hj => one_at (by omega)
  | mul h1 hm ih =>
    intro j hj
    rw [mul_at (by omega), ih j hj]
    exact (h.gnp k hk _ hm).2 j hj

/-- The products of the levels from k on. -/
theorem InS.peel {n : Nat} (hn : n ≤ 16) {C : Chn} (hT : TblOk n C.has C.tab) {k : Nat} (hk : k < n) {r : Nat → Nat} : InS n C k r ↔ Np n r ∧ C.has k (r k) = true ∧ InS n C (k + 1) (mulF n r (backTo (C.tab k (r k)) n)) := by
  have h := InT.peel hn hT (d := n - k - 1) (r := r) (by omega)
  rw [show n - (n - k - 1 + 1) = k by omega] at h
  unfold InS
  rw [show n - k = n - k - 1 + 1 by omega, show n - (k + 1) = n - k - 1 by omega]
  exact h
theorem InS.entry {n : Nat} (hn : n ≤ 16) {C : Chn} (hT : TblOk n C.has C.tab) {k y : Nat} (hk : k < n) (hy : C.has k y = true) : InS n C k (C.tab k y) := by
  have h := InT.entry hn hT (d := n - k - 1) (k := y) (by omega) (by rw [show n - (n - k - 1 + 1) = k by omega]; exact hy)
  rw [show n - (n - k - 1 + 1) = k by omega] at h
  unfold InS
  rw [show n - k = n - k - 1 + 1 by omega]
  exact h
/-- What is left of p at k belongs to the next level: so does p. -/
theorem InS.lift {n : Nat} (hn : n ≤ 16) {C : Chn} (hT : TblOk n C.has C.tab) {k : Nat} (hk : k < n) {p : Nat → Nat} (hp : Np n p) (hh : C.has k (p k) = true) (h : InS n C (k + 1) (mulF n p (backTo (C.tab k (p k)) n))) : InS n C k p := (InS.peel hn hT hk).2 ⟨hp, hh, h⟩

/-- What is left of p keeps one number more. -/
theorem left_fix {n : Nat} (hn : n ≤ 16) {has : Nat → Nat → Bool} {tab : Nat → Nat → Nat → Nat} (hT : TblOk n has tab) {k : Nat} (hk : k < n) {p : Nat → Nat} (hp : Np n p) (hf : ∀ j, j < k → p j = j) (hh : has k (p k) = true) : Np n (mulF n p (backTo (tab k (p k)) n)) ∧ ∀ j, j < k + 1 → mulF n p (backTo (tab k (p k)) n) j = j := by
  have ht := hT.np _ _ hk hh
  refine ⟨mul_np hp (inv_np hn ht), fun j hj => ?_⟩
  have hjn : j < n := by omega
  rw [mul_at hjn]
  by_cases e : j < k
  · rw [hf j e]
    have h1 := hT.fix _ _ hk hh j e
    have h2 := inv_back ht hjn
    rwa [h1] at h2
  · have e : j = k := by omega
    subst e
    have h1 := hT.at_ _ _ hk hh
    have h2 := inv_back ht hk
    rwa [h1] at h2

/-! ### What Add and Step do -/
structure AddPre (n k : Nat) (p : Nat → Nat) (C : Chn) : Prop where
  ci : CI n C
  np : Np n p
  fix : ∀ j, j < k → p j = j
  up : ∀ i, i + 1 = k → Grp n (C.gens i) p
  clo : ∀ j, k ≤ j → j < n → Clo n C j
  room : ∀ i, k ≤ i → i < n → (C.gens i).length + freeF C.has n ≤ 256

structure AddPost (n k : Nat) (p : Nat → Nat) (C D : Chn) : Prop where
  ci : CI n D
  ext : ExtC n C D
  low : ∀ i, i < k → D.has i = C.has i ∧ D.tab i = C.tab i ∧ D.gens i = C.gens i
  gen : D.gens k = C.gens k ∨ D.gens k = C.gens k ++ [p]
  clo : ∀ j, k ≤ j → j < n → Clo n D j
  room : ∀ i, k ≤ i → i < n → (D.gens i).length + freeF D.has n ≤ 256
  ins : InS n D k p

structure StepPre (n k : Nat) (p : Nat → Nat) (C : Chn) : Prop where
  ci : CI n C
  grp : Grp n (C.gens k) p
  clo : ∀ j, k < j → j < n → Clo n C j
  room : ∀ i, k < i → i < n → (C.gens i).length + freeF C.has n ≤ 256
  len : (C.gens k).length ≤ 257

structure StepPost (n k : Nat) (p : Nat → Nat) (C D : Chn) : Prop where
  ci : CI n D
  ext : ExtC n C D
  low : ∀ i, i < k → D.has i = C.has i ∧ D.tab i = C.tab i
  gen : ∀ i, i ≤ k → D.gens i = C.gens i
  clo : ∀ j, k < j → j < n → Clo n D j
  room : ∀ i, k < i → i < n → (D.gens i).length + freeF D.has n ≤ 256
  ins : InS n D k p
  new : ∀ y, D.has k y = true → C.has k y = false → ∀ g ∈ C.gens k, InS n D k (mulF n (D.tab k y) g)

/-! ### Add -/
theorem AddPost.stay {n k : Nat} {p : Nat → Nat} {C : Chn} (h : AddPre n k p C) (hi : InS n C k p) : AddPost n k p C C :=
  ⟨h.ci, .refl, fun i _ => ⟨rfl, rfl, rfl⟩, .inl rfl, h.clo, h.room, hi⟩

structure AddInv (n k : Nat) (p : Nat → Nat) (C : Chn) (x : Nat) (D : Chn) : Prop where
  ci : CI n D
  ext : ExtC n C D
  low : ∀ i, i < k → D.has i = C.has i ∧ D.tab i = C.tab i ∧ D.gens i = C.gens i
  gen : D.gens k = C.gens k ++ [p]
  clo : ∀ j, k < j → j < n → Clo n D j
  room : ∀ i, k < i → i < n → (D.gens i).length + freeF D.has n ≤ 256
  old : ∀ y, D.has k y = true → (∀ g ∈ C.gens k, InS n D k (mulF n (D.tab k y) g)) ∧ (InS n D k (mulF n (D.tab k y) p) ∨ x ≤ y)

def Chn.addG (C : Chn) (k : Nat) (p : Nat → Nat) : Chn := ⟨fun i => if i = k then C.gens k ++ [p] else C.gens i, C.has, C.tab⟩
theorem Chn.addG_same (C : Chn) (k : Nat) (p : Nat → Nat) : (C.addG k p).gens k = C.gens k ++ [p] := by simp [Chn.addG]
theorem Chn.addG_ne (C : Chn) {k i : Nat} (p : Nat → Nat) (h : i ≠ k) : (C.addG k p).gens i = C.gens i := by simp [Chn.addG, h]
theorem Chn.addG_mem (C : Chn) {k i : Nat} (p : Nat → Nat) {g : Nat → Nat} (h : g ∈ C.gens i) : g ∈ (C.addG k p).gens i := by
  by_cases e : i = k
  · subst e; rw [addG_same]; simp [h]
  · rw [addG_ne _ _ e]; exact h

theorem AddInv.start {n k : Nat} (hk : k < n) {p : Nat → Nat} {C : Chn} (h : AddPre n k p C) : AddInv n k p C 0 (C.addG k p) where
  ci := ⟨h.ci.T, fun i y hi hy => (h.ci.lvl i y hi hy).mono fun g hg => C.addG_mem p hg, fun i hi g hg => by
      by_cases e : i = k
      · subst e
        rw [Chn.addG_same] at hg
        rcases List.mem_append.1 hg with hg | hg
        · exact h.ci.gnp _ hi g hg
        · simp only [List.mem_singleton] at hg
          subst hg; exact ⟨h.np, h.fix⟩
      · rw [Chn.addG_ne _ _ e] at hg; exact h.ci.gnp i hi g hg, fun i hi g hg => by
      by_cases e : i + 1 = k
      · have hg : g ∈ C.gens k ++ [p] := by rw [← Chn.addG_same, ← e]; rw [← e] at hg; exact hg
        have e2 : i ≠ k := by omega
        rw [Chn.addG_ne _ _ e2]
        rcases List.mem_append.1 hg with hg | hg
        · exact h.ci.sub i hi g (by rw [e]; exact hg)
        · simp only [List.mem_singleton] at hg
          subst hg; exact h.up i e
      · rw [Chn.addG_ne _ _ e] at hg
        exact (h.ci.sub i hi g hg).mono fun g hg => C.addG_mem p hg⟩
  ext := .refl
  low i hi := ⟨rfl, rfl, Chn.addG_ne _ _ (by omega)⟩
  gen := Chn.addG_same _ _ _
  clo j hj hjn := fun y hy g hg => by
    rw [Chn.addG_ne _ _ (by omega)] at hg
    exact h.clo j (by omega) hjn y hy g hg
  room i hi hin := by rw [Chn.addG_ne _ _ (by omega)]; exact h.room i (by omega) hin
  old y hy := ⟨fun g hg => h.clo k (Nat.le_refl _) hk y hy g hg, .inr (Nat.zero_le _)⟩

theorem AddInv.pre {n k : Nat} (hk : k < n) {p : Nat → Nat} {C D : Chn} {x : Nat} (hA : AddPre n k p C) (h : AddInv n k p C x D) (hx : D.has k x = true) : StepPre n k (mulF n (D.tab k x) p) D :=
  ⟨h.ci, (h.ci.lvl k x hk hx).mul (by rw [h.gen]; simp), h.clo, h.room, by
    have := hA.room k (Nat.le_refl _) hk
    rw [h.gen, List.length_append, List.length_singleton]; omega⟩

theorem AddInv.step {n k : Nat} {p : Nat → Nat} {C D E : Chn} {x : Nat} (hk : k < n) (h : AddInv n k p C x D) (hx : D.has k x = true) (hs : StepPost n k (mulF n (D.tab k x) p) D E) : AddInv n k p C (x + 1) E where
  ci := hs.ci
  ext := h.ext.trans hs.ext
  low i hi := by
    obtain ⟨a, b, c⟩ := h.low i hi
    obtain ⟨a', b'⟩ := hs.low i hi
    exact ⟨a'.trans a, b'.trans b, (hs.gen i (by omega)).trans c⟩
  gen := (hs.gen k (Nat.le_refl _)).trans h.gen
  clo := hs.clo
  room := hs.room
  old y hy := by
    cases hD : D.has k y with
    | true =>
      obtain ⟨h1, h2⟩ := h.old y hD
      rw [hs.ext.tb k y hk hD]
      refine ⟨fun g hg => (h1 g hg).ext hs.ext, ?_⟩
      by_cases e : y = x
      · subst e; exact .inl hs.ins
      · rcases h2 with h2 | h2
        · exact .inl (h2.ext hs.ext)
        · exact .inr (by omega)
    | false =>
      have h1 := hs.new y hy hD
      rw [h.gen] at h1
      exact ⟨fun g hg => h1 g (by simp [hg]), .inl (h1 p (by simp))⟩

theorem AddInv.skip {n k : Nat} {p : Nat → Nat} {C D : Chn} {x : Nat} (h : AddInv n k p C x D) (hx : D.has k x = false) : AddInv n k p C (x + 1) D :=
  ⟨h.ci, h.ext, h.low, h.gen, h.clo, h.room, fun y hy => by
    obtain ⟨h1, h2⟩ := h.old y hy
    refine ⟨h1, h2.imp id fun h2 => ?_⟩
    by_cases e : y = x
    · subst e; rw [hx] at hy; cases hy
    · omega⟩

theorem AddInv.done {n k : Nat} (hn : n ≤ 16) {p : Nat → Nat} {C D : Chn} (hk : k < n) (hp : AddPre n k p C) (h : AddInv n k p C n D) (hno : ¬ InS n C k p) : AddPost n k p C D := by
  have all : ∀ y, D.has k y = true → InS n D k (mulF n (D.tab k y) p) := fun y hy => by
    rcases (h.old y hy).2 with h1 | h1
    · exact h1
    · have := h.ci.T.lt k y hk hy; omega
  have ins : InS n D k p := by
    obtain ⟨h1, h2⟩ := h.ci.T.diag k hk
    have := all k h1
    rwa [h2, one_mul hp.np] at this
  have hfr := free_new hn h.ci.T h.ext hno ins
  refine ⟨h.ci, h.ext, h.low, .inr h.gen, fun j hj hjn => ?_, fun i hi hin => ?_, ins⟩
  · by_cases e : j = k
    · subst e
      intro y hy g hg
      rw [h.gen] at hg
      rcases List.mem_append.1 hg with hg | hg
      · exact (h.old y hy).1 g hg
      · simp only [List.mem_singleton] at hg
        subst hg; exact all y hy
    · exact h.clo j (by omega) hjn
  · by_cases e : i = k
    · subst e
      have := hp.room i (Nat.le_refl _) hin
      rw [h.gen, List.length_append, List.length_singleton]; omega
    · exact h.room i (by omega) hin

/-! ### Step -/
/-- A number that is led to already: what is left. -/
theorem StepPre.left {n k : Nat} (hn : n ≤ 16) (hk : k + 1 < n) {p : Nat → Nat} {C : Chn} (h : StepPre n k p C) (hh : C.has k (p k) = true) : AddPre n (k + 1) (mulF n p (backTo (C.tab k (p k)) n)) C := by
  have hp := h.grp.np (h.ci.gn (show k < n by omega))
  obtain ⟨h1, h2⟩ := left_fix hn h.ci.T (show k < n by omega) hp (h.ci.fix (by omega) h.grp) hh
  refine ⟨h.ci, h1, h2, fun i hi => ?_, fun j hj hjn => h.clo j (by omega) hjn, fun i hi hin => h.room i (by omega) hin⟩
  obtain rfl : i = k := by omega
  exact h.grp.comp (h.ci.gn (by omega)) ((h.ci.lvl i _ (by omega) hh).inv hn (h.ci.gn (by omega)))

theorem StepPost.left {n k : Nat} (hn : n ≤ 16) (hk : k + 1 < n) {p : Nat → Nat} {C D : Chn} (h : StepPre n k p C) (hh : C.has k (p k) = true) (ha : AddPost n (k + 1) (mulF n p (backTo (C.tab k (p k)) n)) C D) : StepPost n k p C D := by
  have hp := h.grp.np (h.ci.gn (show k < n by omega))
  refine ⟨ha.ci, ha.ext, fun i hi => ⟨(ha.low i (by omega)).1, (ha.low i (by omega)).2.1⟩, fun i hi => (ha.low i (by omega)).2.2, fun j hj hjn => ha.clo j (by omega) hjn, fun i hi hin => ha.room i (by omega) hin, ?_, fun y hy hno => ?_⟩
  · refine InS.lift hn ha.ci.T (by omega) hp (ha.ext.hs k _ (by omega) hh) ?_
    rw [ha.ext.tb k _ (by omega) hh]; exact ha.ins
  · rw [(ha.low k (by omega)).1, hno] at hy; cases hy

theorem StepPost.last {n k : Nat} (hn : n ≤ 16) (hk : k + 1 = n) {p : Nat → Nat} {C : Chn} (h : StepPre n k p C) (hh : C.has k (p k) = true) : StepPost n k p C C := by
  have hp := h.grp.np (h.ci.gn (show k < n by omega))
  obtain ⟨h1, h2⟩ := left_fix hn h.ci.T (show k < n by omega) hp (h.ci.fix (by omega) h.grp) hh
  refine ⟨h.ci, .refl, fun i hi => ⟨rfl, rfl⟩, fun i hi => rfl, h.clo, h.room, ?_, fun y hy hno => ?_⟩
  · refine InS.lift hn h.ci.T (by omega) hp hh ?_
    unfold InS
    rw [show n - (k + 1) = 0 by omega]
    exact np_ext h1 (one_np n) fun i hi => by rw [h2 i (by omega), one_at hi]
  · rw [hno] at hy; cases hy

structure StepInv (n k : Nat) (p : Nat → Nat) (C : Chn) (i : Nat) (D : Chn) : Prop where
  ci : CI n D
  ext : ExtC n C D
  low : ∀ i, i < k → D.has i = C.has i ∧ D.tab i = C.tab i
  gen : ∀ i, i ≤ k → D.gens i = C.gens i
  clo : ∀ j, k < j → j < n → Clo n D j
  room : ∀ i, k < i → i < n → (D.gens i).length + freeF D.has n ≤ 256
  here : D.has k (p k) = true ∧ D.tab k (p k) = p
  mine : ∀ l, l < i → InS n D k (mulF n p ((C.gens k).getD l fun _ => 0))
  new : ∀ y, D.has k y = true → C.has k y = false → y ≠ p k → ∀ g ∈ C.gens k, InS n D k (mulF n (D.tab k y) g)
  free : freeF D.has n + 1 ≤ freeF C.has n

def Chn.put (C : Chn) (k : Nat) (p : Nat → Nat) : Chn := ⟨C.gens, up2 C.has k (p k) true, up2 C.tab k (p k) p⟩

theorem StepInv.start {n k : Nat} (hn : n ≤ 16) (hk : k < n) {p : Nat → Nat} {C : Chn} (h : StepPre n k p C) (hh : C.has k (p k) = false) : StepInv n k p C 0 (C.put k p) := by
  have hp := h.grp.np (h.ci.gn hk)
  obtain ⟨h1, h2⟩ := tbl_add h.ci.T hk hp (h.ci.fix hk h.grp) hh
  have hfr := free_up (has := C.has) (l := k) (y := p k) (by have := hp.perm.lt k hk; omega) hh n hk
  have row : ∀ i, i ≠ k → up2 C.has k (p k) true i = C.has i ∧ up2 C.tab k (p k) p i = C.tab i := fun i hi => ⟨by funext y; exact up2_ne _ _ fun e => hi e.1, by funext y; exact up2_ne _ _ fun e => hi e.1⟩
  refine ⟨⟨h1, fun i y hi hy => ?_, h.ci.gnp, h.ci.sub⟩, h2, fun i hi => row i (by omega), fun i hi => rfl, fun j hj hjn y hy g hg => ?_, fun i hi hin => ?_, ⟨up2_same _ _ _ _, up2_same _ _ _ _⟩, fun l hl => absurd hl (Nat.not_lt_zero _), fun y hy hno hne => ?_, ?_⟩
  · simp only [Chn.put] at hy ⊢
    by_cases e : i = k ∧ y = p k
    · obtain ⟨rfl, rfl⟩ := e; rw [up2_same]; exact h.grp
    · rw [up2_ne _ _ e] at hy ⊢; exact h.ci.lvl i y hi hy
  · have hy' : C.has j y = true := by have := (row j (by omega)).1; simp only [Chn.put] at hy; rw [this] at hy; exact hy
    have h3 := h.clo j hj hjn y hy' g hg
    have h4 : (C.put k p).tab j y = C.tab j y := by simp only [Chn.put]; rw [(row j (by omega)).2]
    rw [h4]; exact InS.ext (D := C.put k p) h2 h3
  · have := h.room i hi hin
    simp only [Chn.put]; omega
  · simp only [Chn.put] at hy
    rw [up2_ne _ _ fun e => hne e.2, hno] at hy; cases hy
  · simp only [Chn.put]; omega

theorem StepInv.pre {n k : Nat} (hk : k < n) {p : Nat → Nat} {C D : Chn} {i : Nat} (hC : StepPre n k p C) (h : StepInv n k p C i D) (hi : i < (C.gens k).length) : StepPre n k (mulF n p ((C.gens k).getD i fun _ => 0)) D := by
  refine ⟨h.ci, ?_, h.clo, h.room, by rw [h.gen k (Nat.le_refl _)]; exact hC.len⟩
  rw [h.gen k (Nat.le_refl _)]
  exact hC.grp.mul (getDf_mem hi)

theorem StepInv.step {n k : Nat} (hk : k < n) {p : Nat → Nat} {C D E : Chn} {i : Nat} (hC : StepPre n k p C) (h : StepInv n k p C i D) (hs : StepPost n k (mulF n p ((C.gens k).getD i fun _ => 0)) D E) : StepInv n k p C (i + 1) E where
  ci := hs.ci
  ext := h.ext.trans hs.ext
  low i hi := ⟨(hs.low i hi).1.trans (h.low i hi).1, (hs.low i hi).2.trans (h.low i hi).2⟩
  gen i hi := (hs.gen i hi).trans (h.gen i hi)
  clo := hs.clo
  room := hs.room
  here := ⟨hs.ext.hs k _ hk h.here.1, (hs.ext.tb k _ hk h.here.1).trans h.here.2⟩
  mine l hl := by
    by_cases e : l = i
    · subst e; exact hs.ins
    · exact (h.mine l (by omega)).ext hs.ext
  new y hy hno hne g hg := by
    cases hD : D.has k y with
    | true => rw [hs.ext.tb k y hk hD]; exact (h.new y hD hno hne g hg).ext hs.ext
    | false => exact hs.new y hy hD g (by rw [h.gen k (Nat.le_refl _)]; exact hg)
  free := by
    have := free_ext (has := D.has) (has' := E.has) n (Nat.le_refl _) hs.ext.hs
    have := h.free
    omega

theorem StepInv.done {n k : Nat} (hn : n ≤ 16) (hk : k < n) {p : Nat → Nat} {C D : Chn} (hC : StepPre n k p C) (h : StepInv n k p C (C.gens k).length D) : StepPost n k p C D := by
  refine ⟨h.ci, h.ext, h.low, h.gen, h.clo, h.room, ?_, fun y hy hno g hg => ?_⟩
  · have := InS.entry hn h.ci.T hk h.here.1
    rwa [h.here.2] at this
  · by_cases e : y = p k
    · subst e
      rw [h.here.2]
      obtain ⟨j, hj, rfl⟩ := mem_getDf hg
      exact h.mine j hj
    · exact h.new y hy hno e g hg

/-! ### All levels -/
/-- Closed levels: their products are a group. -/
theorem clo_all {n : Nat} (hn : n ≤ 16) {C : Chn} (h : CI n C) (hc : ∀ j, j < n → Clo n C j) : ∀ d, d ≤ n → (∀ r s, InT n C.has C.tab d r → InT n C.has C.tab d s → InT n C.has C.tab d (mulF n r s)) ∧ (∀ g, 1 ≤ d → (InT n C.has C.tab d g ↔ Grp n (C.gens (n - d)) g))
  | 0, _ => by
    refine ⟨fun r s hr hs => ?_, fun g hg => by omega⟩
    have hr : r = sameF n := hr
    have hs : s = sameF n := hs
    subst hr; subst hs; exact mul_one (one_np n)
  | d + 1, hd => by
    obtain ⟨ih, ih2⟩ := clo_all hn h hc d (by omega)
    have hlt : n - (d + 1) < n := by omega
    have hgn := h.gn hlt
    have right : ∀ r g, InT n C.has C.tab (d + 1) r → g ∈ C.gens (n - (d + 1)) → InT n C.has C.tab (d + 1) (mulF n r g) := by
      rintro r g ⟨k, hk, u, hu, rfl⟩ hg
      have h1 := hc _ hlt k hk g hg
      unfold InS at h1
      rw [show n - (n - (d + 1)) = d + 1 by omega] at h1
      obtain ⟨k', hk', u', hu', e⟩ := h1
      have nu := (InT.np h.T (by omega) hu).1
      have nu' := (InT.np h.T (by omega) hu').1
      have nk := h.T.np _ k hlt hk
      have nk' := h.T.np _ k' hlt hk'
      refine ⟨k', hk', mulF n u u', ih _ _ hu hu', ?_⟩
      rw [mul_assoc nu nk (hgn g hg), e, mul_assoc nu nu' nk']
    have sub : ∀ g, Grp n (C.gens (n - (d + 1))) g → InT n C.has C.tab (d + 1) g := by
      intro g hg
      induction hg with
      | one => exact InT.one hn h.T hd
      | mul _ hm ih => exact right _ _ ih hm
    have sup : ∀ g, InT n C.has C.tab (d + 1) g → Grp n (C.gens (n - (d + 1))) g := by
      rintro g ⟨k, hk, u, hu, rfl⟩
      refine Grp.comp hgn ?_ (h.lvl _ k hlt hk)
      by_cases e : d = 0
      · subst e
        have hu : u = sameF n := hu
        subst hu; exact .one
      · have h1 := (ih2 u (by omega)).1 hu
        refine h1.sub hgn fun g hg => ?_
        have h2 := h.sub (n - (d + 1)) (by omega) g
        rw [show n - (d + 1) + 1 = n - d by omega] at h2
        exact h2 hg
    exact ⟨fun r s hr hs => sub _ ((sup r hr).comp hgn (sup s hs)), fun g _ => ⟨sup g, sub g⟩⟩

/-- A chain of the group of some permutations. -/
structure Chain (n : Nat) (L : List (Nat → Nat)) (C : Chn) : Prop where
  ci : CI n C
  clo : ∀ j, j < n → Clo n C j
  room : ∀ i, i < n → (C.gens i).length + freeF C.has n ≤ 256
  gen : ∀ g ∈ L, InS n C 0 g
  sub : ∀ g ∈ C.gens 0, Grp n L g

def chn0 (n : Nat) : Chn := ⟨fun _ => [], has0 n, tab0 n⟩
theorem Chain.start (n : Nat) (hn : n ≤ 16) : Chain n [] (chn0 n) where
  ci := ⟨tbl0 n, fun i k hi h => by simp only [chn0] at h ⊢; unfold tab0; rw [if_pos (has0_t h)]; exact .one, fun i hi g hg => absurd hg List.not_mem_nil, fun i hi g hg => absurd hg List.not_mem_nil⟩
  clo j hj y hy g hg := by cases hg
  room i hi := by have := free_le (has0 n) n; simp only [chn0, List.length_nil]; omega
  gen g hg := by cases hg
  sub g hg := by cases hg

theorem Chain.pre {n : Nat} {L : List (Nat → Nat)} {C : Chn} (h : Chain n L C) {p : Nat → Nat} (hp : Np n p) : AddPre n 0 p C :=
  ⟨h.ci, hp, fun j hj => absurd hj (Nat.not_lt_zero _), fun i hi => by omega, fun j _ hj => h.clo j hj, fun i _ hi => h.room i hi⟩

theorem Chain.add {n : Nat} {L : List (Nat → Nat)} (hL : ∀ g ∈ L, Np n g) {C D : Chn} (h : Chain n L C) {p : Nat → Nat} (hp : Np n p) (ha : AddPost n 0 p C D) : Chain n (L ++ [p]) D where
  ci := ha.ci
  clo j hj := ha.clo j (Nat.zero_le _) hj
  room i hi := ha.room i (Nat.zero_le _) hi
  gen g hg := by
    rcases List.mem_append.1 hg with hg | hg
    · exact (h.gen g hg).ext ha.ext
    · simp only [List.mem_singleton] at hg
      subst hg; exact ha.ins
  sub g hg := by
    have hall : ∀ g ∈ L ++ [p], Np n g := fun g hg => by
      rcases List.mem_append.1 hg with hg | hg
      · exact hL g hg
      · simp only [List.mem_singleton] at hg
        subst hg; exact hp
    have hold : g ∈ C.gens 0 → Grp n (L ++ [p]) g := fun hg => (h.sub g hg).mono fun g hg => by simp [hg]
    rcases ha.gen with e | e
    · rw [e] at hg; exact hold hg
    · rw [e] at hg
      rcases List.mem_append.1 hg with hg | hg
      · exact hold hg
      · simp only [List.mem_singleton] at hg
        subst hg; exact Grp.gen hall (by simp)

theorem Chain.done {n : Nat} (hn : n ≤ 16) (h1 : 1 ≤ n) {L : List (Nat → Nat)} (hL : ∀ g ∈ L, Np n g) {C : Chn} (h : Chain n L C) : Tells n L C.has ∧ ∀ g, InS n C 0 g ↔ Grp n L g := by
  obtain ⟨c1, c2⟩ := clo_all hn h.ci h.clo n (Nat.le_refl _)
  have c2 : ∀ g, InS n C 0 g ↔ Grp n (C.gens 0) g := fun g => by
    have := c2 g h1
    rwa [show n - n = 0 by omega] at this
  have up : ∀ g, Grp n (C.gens 0) g → Grp n L g := fun g hg => hg.sub hL h.sub
  have down : ∀ g, Grp n L g → InS n C 0 g := fun g hg => by
    refine (c2 g).2 (hg.sub (h.ci.gn (by omega)) fun g hg => (c2 g).1 (h.gen g hg))
  have lv : ∀ i, i < n → ∀ g, Grp n (C.gens i) g → Grp n L g := fun i => by
    induction i with
    | zero => exact fun _ => up
    | succ i ih => exact fun hi g hg => ih (by omega) g (hg.sub (h.ci.gn (by omega)) fun g hg => h.ci.sub i hi g hg)
  exact ⟨tells_of hn h.ci.T hL (fun i k hi hk => lv i hi _ (h.ci.lvl i k hi hk)) down, fun g => ⟨fun hg => up g ((c2 g).1 hg), down g⟩⟩

end Go.Proofs.Ytakapfgjdhliaaa

/- The order of a group that a table tells. -/
namespace Go.Proofs.Ytakapfgjdhliaaa
open Go.RowKit DM
set_option linter.unusedVariables false
set_option linter.unusedSimpArgs false

def cntB (f : Nat → Bool) : Nat → Nat
  | 0 => 0
  | k + 1 => bif f k then cntB f k + 1 else cntB f k
theorem cntB_le (f : Nat → Bool) : ∀ k, cntB f k ≤ k
  | 0 => Nat.le_refl _
  | k + 1 => by have := cntB_le f k; simp only [cntB]; cases f k <;> simp <;> omega
theorem cntB_congr {f g : Nat → Bool} : ∀ k, (∀ j, j < k → f j = g j) → cntB f k = cntB g k
  | 0, _ => rfl
  | k + 1, h => by simp only [cntB]; rw [h k (by omega), cntB_congr k fun j hj => h j (by omega)]
theorem cntB_pos {f : Nat → Bool} {j : Nat} : ∀ k, j < k → f j = true → 1 ≤ cntB f k
  | 0, h, _ => absurd h (Nat.not_lt_zero _)
  | k + 1, h, hf => by
    simp only [cntB]
    by_cases e : j = k
    · subst e; rw [hf]; simp
    · have := cntB_pos k (by omega) hf; cases f k <;> simp <;> omega
/-- Those below i do not count. -/
theorem cntB_from {f : Nat → Bool} {i : Nat} (h : ∀ j, j < i → f j = false) : ∀ k, cntB f k ≤ k - i
  | 0 => by simp [cntB]
  | k + 1 => by
    have ih := cntB_from h k
    simp only [cntB]
    by_cases e : k < i
    · rw [h k e]; simp; omega
    · cases f k <;> simp <;> omega
theorem cntB_over {f : Nat → Bool} {n : Nat} (h : ∀ j, n ≤ j → f j = false) : ∀ k, n ≤ k → cntB f k = cntB f n
  | 0, hk => by rw [show n = 0 by omega]
  | k + 1, hk => by
    by_cases e : n = k + 1
    · subst e; rfl
    · simp only [cntB]; rw [h k (by omega), cond_false]; exact cntB_over h k (by omega)

/-- The product of the numbers of entries of the first levels. -/
def ordF (m : Nat) (has : Nat → Nat → Bool) : Nat → Nat
  | 0 => 1
  | i + 1 => ordF m has i * cntB (has i) m
theorem ord_congr {m : Nat} {a b : Nat → Nat → Bool} : ∀ i, (∀ l, l < i → cntB (a l) m = cntB (b l) m) → ordF m a i = ordF m b i
  | 0, _ => rfl
  | i + 1, h => by simp only [ordF]; rw [ord_congr i fun l hl => h l (by omega), h i (by omega)]
theorem ord_pos {m : Nat} {a : Nat → Nat → Bool} : ∀ i, (∀ l, l < i → 1 ≤ cntB (a l) m) → 1 ≤ ordF m a i
  | 0, _ => Nat.le_refl _
  | i + 1, h => by simp only [ordF]; exact Nat.mul_pos (ord_pos i fun l hl => h l (by omega)) (h i (by omega))

def fallF : Nat → Nat
  | 0 => 1
  | i + 1 => fallF i * (16 - i)
theorem fall_le : ∀ i, i ≤ 16 → fallF i ≤ 20922789888000 := by decide
theorem ord_fall {m : Nat} {a : Nat → Nat → Bool} : ∀ i, (∀ l, l < i → cntB (a l) m ≤ 16 - l) → ordF m a i ≤ fallF i
  | 0, _ => Nat.le_refl _
  | i + 1, h => by simp only [ordF, fallF]; exact Nat.mul_le_mul (ord_fall i fun l hl => h l (by omega)) (h i (by omega))

/-- An entry of level i leads i to i or more. -/
theorem TblOk.ge {n : Nat} {has : Nat → Nat → Bool} {tab : Nat → Nat → Nat → Nat} (hT : TblOk n has tab) {i k : Nat} (hi : i < n) (h : has i k = true) : i ≤ k := by
  refine Classical.byContradiction fun hno => ?_
  have h1 := hT.at_ i k hi h
  have h2 := hT.fix i k hi h k (by omega)
  have := (hT.np i k hi h).perm.inj k i (by omega) hi (by rw [h1, h2])
  omega
theorem TblOk.cnt {n : Nat} {has : Nat → Nat → Bool} {tab : Nat → Nat → Nat → Nat} (hT : TblOk n has tab) {i : Nat} (hi : i < n) (m : Nat) : cntB (has i) m ≤ m - i :=
  cntB_from (fun j hj => by cases h : has i j with | false => rfl | true => have := hT.ge hi h; omega) m
theorem TblOk.ord {n : Nat} (hn : n ≤ 16) {has : Nat → Nat → Bool} {tab : Nat → Nat → Nat → Nat} (hT : TblOk n has tab) {m : Nat} (hm : m ≤ 16) {i : Nat} (hi : i ≤ n) : ordF m has i ≤ 20922789888000 :=
  Nat.le_trans (ord_fall i fun l hl => by have := hT.cnt (i := l) (by omega) m; omega) (fall_le i (by omega))
/-- Counted up to n or to 16. -/
theorem TblOk.ord16 {n : Nat} (hn : n ≤ 16) {has : Nat → Nat → Bool} {tab : Nat → Nat → Nat → Nat} (hT : TblOk n has tab) : ordF 16 has n = ordF n has n := by
  have : ∀ i, i ≤ n → ordF 16 has i = ordF n has i := fun i => by
    induction i with
    | zero => intro _; rfl
    | succ i ih =>
      intro hi
      simp only [ordF]
      rw [ih (by omega), cntB_over (n := n) (fun j hj => by
        cases h : has i j with
        | false => rfl
        | true => have := hT.lt i j (by omega) h; omega) 16 hn]
  exact this n (Nat.le_refl _)

end Go.Proofs.Ytakapfgjdhliaaa

/- Rows of permutations; tables as data. -/
namespace Go.Proofs.Ytakapfgjdhliaaa
open Go.RowKit DM
set_option linter.unusedVariables false
set_option linter.unusedSimpArgs false

def rowP (L : List (Nat → Nat)) (i : Nat) : Dat := pl (L.getD i fun _ => 0)

theorem getDp_lt (L M : List (Nat → Nat)) {j : Nat} (h : j < L.length) : (L ++ M).getD j (fun _ => 0) = L.getD j fun _ => 0 := by
  simp only [List.getD_eq_getElem?_getD, List.getElem?_append_left h]
theorem getDp_ge (L M : List (Nat → Nat)) {j : Nat} (h : L.length ≤ j) : (L ++ M).getD j (fun _ => 0) = M.getD (j - L.length) fun _ => 0 := by
  simp only [List.getD_eq_getElem?_getD, List.getElem?_append_right h]

theorem ap_row {L M : List (Nat → Nat)} {n : Nat} (hn : L.length = n) {g : Nat → Dat} (hg : ∀ j, j < M.length → g j = pl (M.getD j fun _ => 0)) (j : Nat) (hj : j < n + M.length) : rowP (L ++ M) j = apF n (rowP L) 0 g j := by
  subst hn
  unfold apF rowP
  by_cases h : j < L.length
  · rw [show Nat.blt j L.length = true by rw [Nat.blt_eq]; exact h, cond_true, getDp_lt _ _ h]
  · rw [show Nat.blt j L.length = false from by cases hh : Nat.blt j L.length with | false => rfl | true => rw [Nat.blt_eq] at hh; exact absurd hh h, cond_false, getDp_ge _ _ (by omega), hg _ (by omega), Nat.zero_add]
theorem ap_row1 {L : List (Nat → Nat)} {n : Nat} (hn : L.length = n) (p : Nat → Nat) (z : Nat → Dat) (j : Nat) (hj : j < n + 1) : rowP (L ++ [p]) j = apF n (rowP L) 0 (fup z 0 (pl p)) j :=
  ap_row hn (fun j hj => by simp only [List.length_singleton] at hj; obtain rfl : j = 0 := (by omega); rw [fup_same]; rfl) j hj
theorem ap_row2 {L : List (Nat → Nat)} {n : Nat} (hn : L.length = n) (p q : Nat → Nat) (z : Nat → Dat) (j : Nat) (hj : j < n + 2) : rowP (L ++ [p, q]) j = apF n (rowP L) 0 (fup (fup z 0 (pl p)) 1 (pl q)) j :=
  ap_row hn (fun j hj => by
    simp only [List.length_cons, List.length_nil] at hj
    rcases j with _ | _ | j
    · rfl
    · rfl
    · omega) j hj
theorem pl_row (L : List (Nat → Nat)) (j : Nat) : Pl (rowP L j) := pl_pl _
theorem sc_row (k : Nat) (L : List (Nat → Nat)) (j : Nat) : Sc k (rowP L j) := sc_pl k _

theorem sc_rwP (k : Nat) (e : Go.TypeId) (n : Nat) (L : List (Nat → Nat)) : Sc k (.ow e n 16 (rowP L)) := fun j _ => sc_row k L j

/-- The first i numbers kept, each at its level. -/
def tabP (n i : Nat) (a b : Nat) : Nat → Nat := if a = b ∧ a < i then sameF n else fun _ => 0
theorem tabP_zero (n : Nat) : tabP n 0 = fun _ _ _ => 0 := by
  funext a b; unfold tabP; rw [if_neg (by omega)]
theorem tabP_step (n i : Nat) : tabP n (i + 1) = up2 (tabP n i) i i (sameF n) := by
  funext a b
  unfold tabP up2
  by_cases h : a = i ∧ b = i
  · obtain ⟨rfl, rfl⟩ := h; rw [if_pos ⟨rfl, by omega⟩, if_pos ⟨rfl, rfl⟩]
  · rw [if_neg h]
    show (if a = b ∧ a < i + 1 then sameF n else fun _ => 0) = (if a = b ∧ a < i then sameF n else fun _ => 0)
    by_cases h2 : a = b ∧ a < i
    · rw [if_pos h2, if_pos ⟨h2.1, by omega⟩]
    · rw [if_neg h2, if_neg fun h3 => h2 ⟨h3.1, by
        have : a ≠ i := fun e => h ⟨e, by omega⟩
        omega⟩]
theorem has0_zero : has0 0 = fun _ _ => false := by funext a b; simp [has0]
theorem has0_step (i : Nat) : has0 (i + 1) = up2 (has0 i) i i true := by
  funext a b
  unfold up2
  by_cases h : a = i ∧ b = i
  · obtain ⟨rfl, rfl⟩ := h; simp [has0]
  · rw [if_neg h]
    unfold has0
    by_cases h2 : a = b
    · subst h2
      have : a ≠ i := fun e => h ⟨e, e⟩
      simp; omega
    · simp [h2]

/-- Entries as data. -/
def tabD (tab : Nat → Nat → Nat → Nat) (i : Nat) : Dat := .ar 16 16 fun k => pl (tab i k)
def hasD (has : Nat → Nat → Bool) (i : Nat) : Dat := .ar 16 1 fun k => .b (has i k)
theorem tabD_up (tab : Nat → Nat → Nat → Nat) (i k : Nat) (p : Nat → Nat) : tabD (up2 tab i k p) = fup (tabD tab) i (.ar 16 16 (fup (fun k => pl (tab i k)) k (pl p))) := by
  funext a
  by_cases h : a = i
  · subst h
    rw [fup_same]
    unfold tabD
    congr 1
    funext b
    by_cases h2 : b = k
    · subst h2; rw [fup_same, up2_same]
    · rw [fup_ne _ _ h2, up2_ne _ _ fun e => h2 e.2]
  · rw [fup_ne _ _ h]
    unfold tabD
    congr 1
    funext b
    rw [up2_ne _ _ fun e => h e.1]
theorem hasD_up (has : Nat → Nat → Bool) (i k : Nat) (v : Bool) : hasD (up2 has i k v) = fup (hasD has) i (.ar 16 1 (fup (fun k => .b (has i k)) k (.b v))) := by
  funext a
  by_cases h : a = i
  · subst h
    rw [fup_same]
    unfold hasD
    congr 1
    funext b
    by_cases h2 : b = k
    · subst h2; rw [fup_same, up2_same]
    · rw [fup_ne _ _ h2, up2_ne _ _ fun e => h2 e.2]
  · rw [fup_ne _ _ h]
    unfold hasD
    congr 1
    funext b
    rw [up2_ne _ _ fun e => h e.1]

def gsf (N : Nat) (has : Nat → Nat → Bool) (tab : Nat → Nat → Nat → Nat) : Nat → Dat
  | 0 => .i .i64 (N : Int)
  | 1 => .ar 16 256 (tabD tab)
  | 2 => .ar 16 16 (hasD has)
  | _ => .un
/-- A group. -/
def grD (N : Nat) (has : Nat → Nat → Bool) (tab : Nat → Nat → Nat → Nat) : Dat := .st 3 (gsf N has tab)
theorem sc_gr (n N : Nat) (has : Nat → Nat → Bool) (tab : Nat → Nat → Nat → Nat) : Sc n (grD N has tab) := by
  intro i _
  rcases i with _ | _ | _ | i
  · trivial
  · exact fun _ _ _ _ => sc_pl _ _
  · exact fun _ _ _ _ => trivial
  · trivial
/-- The table first, then the mark. -/
theorem gr_up (N : Nat) (has : Nat → Nat → Bool) (tab : Nat → Nat → Nat → Nat) (i k : Nat) (p : Nat → Nat) : (Dat.st 3 (fup (fup (gsf N has tab) 1 (.ar 16 256 (fup (tabD tab) i (.ar 16 16 (fup (fun k => pl (tab i k)) k (pl p)))))) 2 (.ar 16 16 (fup (hasD has) i (.ar 16 1 (fup (fun k => .b (has i k)) k (.b true))))))) = grD N (up2 has i k true) (up2 tab i k p) := by
  unfold grD
  congr 1
  funext j
  rcases j with _ | _ | _ | j
  · rfl
  · show Dat.ar 16 256 _ = Dat.ar 16 256 _; rw [tabD_up]
  · show Dat.ar 16 16 _ = Dat.ar 16 16 _; rw [hasD_up]
  · rfl

end Go.Proofs.Ytakapfgjdhliaaa

/- Groups: what is told of them. -/
namespace Go.Proofs.Ytakapfgjdhliaaa
open Go.RowKit DM
set_option linter.unusedVariables false
set_option linter.unusedSimpArgs false

noncomputable def tellB (N : Nat) (L : List (Nat → Nat)) (i k : Nat) : Bool := @decide (∃ g, Grp N L g ∧ (∀ j, j < i → g j = j) ∧ g i = k) (Classical.propDecidable _)
/-- The order of the group of some permutations. -/
noncomputable def ordG (N : Nat) (L : List (Nat → Nat)) : Nat := ordF N (tellB N L) N
/-- Whether one belongs to the group. -/
noncomputable def inG (N : Nat) (L : List (Nat → Nat)) (p : Nat → Nat) : Bool := @decide (Grp N L p) (Classical.propDecidable _)

/-- What a group's table is of. -/
def GrOk (N : Nat) (L : List (Nat → Nat)) (has : Nat → Nat → Bool) (tab : Nat → Nat → Nat → Nat) : Prop :=
  TblOk N has tab ∧ Tells N L has ∧ (∀ i k, i < N → has i k = true → Grp N L (tab i k)) ∧ ∀ g, Np N g → (InT N has tab N g ↔ Grp N L g)

theorem Fill.ok {N : Nat} (hN : N ≤ 16) {L : List (Nat → Nat)} (hL : ∀ g ∈ L, Np N g) {has : Nat → Nat → Bool} {tab : Nat → Nat → Nat → Nat} {E : List (Nat → Nat)} (h : Fill N L has tab E []) : GrOk N L has tab :=
  ⟨h.T, (h.done hN hL).1, h.inG, (h.done hN hL).2⟩

theorem Tells.tb {N : Nat} {L : List (Nat → Nat)} {has : Nat → Nat → Bool} (h : Tells N L has) {i : Nat} (hi : i < N) (k : Nat) : has i k = tellB N L i k := by
  have h1 := h i k hi
  have h2 : tellB N L i k = true ↔ _ := @decide_eq_true_iff _ (Classical.propDecidable _)
  cases e : has i k <;> cases e' : tellB N L i k
  · rfl
  · rw [h1.2 (h2.1 e')] at e; cases e
  · rw [h2.2 (h1.1 e)] at e'; cases e'
  · rfl

theorem Tells.ord {N : Nat} {L : List (Nat → Nat)} {has : Nat → Nat → Bool} (h : Tells N L has) : ordF N has N = ordG N L :=
  ord_congr N fun l hl => cntB_congr N fun j _ => h.tb hl j
theorem GrOk.ord {N : Nat} (hN : N ≤ 16) {L : List (Nat → Nat)} {has : Nat → Nat → Bool} {tab : Nat → Nat → Nat → Nat} (h : GrOk N L has tab) : ordF 16 has N = ordG N L := (h.1.ord16 hN).trans h.2.1.ord
theorem GrOk.le {N : Nat} (hN : N ≤ 16) {L : List (Nat → Nat)} {has : Nat → Nat → Bool} {tab : Nat → Nat → Nat → Nat} (h : GrOk N L has tab) : ordG N L ≤ 20922789888000 := by
  rw [← h.2.1.ord]; exact h.1.ord hN hN (Nat.le_refl _)

end Go.Proofs.Ytakapfgjdhliaaa

/- Chains as data. -/
namespace Go.Proofs.Ytakapfgjdhliaaa
open Go.RowKit DM
set_option linter.unusedVariables false
set_option linter.unusedSimpArgs false

def gnD : List (Nat → Nat) → Dat
  | [] => .ns
  | p :: L => .ow 25 (L.length + 1) 16 (rowP (p :: L))
def chf (N : Nat) (G : Nat → Dat) (has : Nat → Nat → Bool) (tab : Nat → Nat → Nat → Nat) : Nat → Dat
  | 0 => .i .i64 (N : Int)
  | 1 => .ar 16 1 G
  | 2 => .ar 16 16 (hasD has)
  | 3 => .ar 16 256 (tabD tab)
  | _ => .un
def chD (N : Nat) (G : Nat → Dat) (has : Nat → Nat → Bool) (tab : Nat → Nat → Nat → Nat) : Dat := .st 4 (chf N G has tab)
def gnF (g : Nat → List (Nat → Nat)) (i : Nat) : Dat := gnD (g i)
/-- A chain. -/
def chn (N : Nat) (C : Chn) : Dat := chD N (gnF C.gens) C.has C.tab

theorem sc_gn (k : Nat) (L : List (Nat → Nat)) : Sc k (gnD L) := by
  cases L with
  | nil => trivial
  | cons p L => exact fun j _ => sc_row k _ j
theorem sc_chD (k N : Nat) {G : Nat → Dat} (hG : ∀ i, Sc k (G i)) (has : Nat → Nat → Bool) (tab : Nat → Nat → Nat → Nat) : Sc k (chD N G has tab) := by
  intro i _
  rcases i with _ | _ | _ | _ | i
  · trivial
  · exact fun j _ => hG j
  · exact fun _ _ _ _ => trivial
  · exact fun _ _ _ _ => sc_pl _ _
  · trivial
theorem sc_ch (k N : Nat) (C : Chn) : Sc k (chn N C) := sc_chD k N (fun i => sc_gn k _) _ _

section
variable {P : Go.Program} {T : TyEnv} {K : Nat} {fr : Nat → Dat} {rest : List Root} {N k : Nat} {G : Nat → Dat} {has : Nat → Nat → Bool} {tab : Nat → Nat → Nat → Nat}

end

end Go.Proofs.Ytakapfgjdhliaaa

/- Derived groups, pure. -/
namespace Go.Proofs.Ytakapfgjdhliaaa
open Go.RowKit DM
set_option linter.unusedVariables false
set_option linter.unusedSimpArgs false

/-- p, q, p back, q back. -/
def comF (n : Nat) (p q : Nat → Nat) : Nat → Nat := mulF n (mulF n p q) (mulF n (backTo p n) (backTo q n))
/-- q back, p, q. -/
def conF (n : Nat) (p q : Nat → Nat) : Nat → Nat := mulF n (mulF n (backTo q n) p) q

/-- The derived group: what is made of commutators and of what permutations make of these. -/
inductive Der (n : Nat) (L : List (Nat → Nat)) : (Nat → Nat) → Prop
  | one : Der n L (sameF n)
  | mul {p q : Nat → Nat} : Der n L p → Der n L q → Der n L (mulF n p q)
  | com {p q : Nat → Nat} : p ∈ L → q ∈ L → Der n L (comF n p q)
  | con {p q : Nat → Nat} : Der n L p → q ∈ L → Der n L (conF n p q)

theorem com_np {n : Nat} (hn : n ≤ 16) {p q : Nat → Nat} (hp : Np n p) (hq : Np n q) : Np n (comF n p q) := mul_np (mul_np hp hq) (mul_np (inv_np hn hp) (inv_np hn hq))
theorem con_np {n : Nat} (hn : n ≤ 16) {p q : Nat → Nat} (hp : Np n p) (hq : Np n q) : Np n (conF n p q) := mul_np (mul_np (inv_np hn hq) hp) hq
/-- An inverse is told by the product. -/
theorem inv_of {n : Nat} (hn : n ≤ 16) {p q : Nat → Nat} (hp : Np n p) (hq : Np n q) (h : mulF n p q = sameF n) : q = backTo p n := by
  have h1 : mulF n (backTo p n) (mulF n p q) = mulF n (backTo p n) (sameF n) := by rw [h]
  rw [← mul_assoc (inv_np hn hp) hp hq, inv_mul hn hp, one_mul hq, mul_one (inv_np hn hp)] at h1
  exact h1
theorem inv_prod {n : Nat} (hn : n ≤ 16) {p q : Nat → Nat} (hp : Np n p) (hq : Np n q) : backTo (mulF n p q) n = mulF n (backTo q n) (backTo p n) := by
  refine (inv_of hn (mul_np hp hq) (mul_np (inv_np hn hq) (inv_np hn hp)) ?_).symm
  rw [mul_assoc hp hq (mul_np (inv_np hn hq) (inv_np hn hp)), ← mul_assoc hq (inv_np hn hq) (inv_np hn hp), mul_inv hn hq, one_mul (inv_np hn hp), mul_inv hn hp]
theorem inv_inv {n : Nat} (hn : n ≤ 16) {p : Nat → Nat} (hp : Np n p) : backTo (backTo p n) n = p := (inv_of hn (inv_np hn hp) hp (inv_mul hn hp)).symm

theorem com_inv {n : Nat} (hn : n ≤ 16) {p q : Nat → Nat} (hp : Np n p) (hq : Np n q) : backTo (comF n p q) n = comF n q p := by
  have ip := inv_np hn hp
  have iq := inv_np hn hq
  unfold comF
  rw [inv_prod hn (mul_np hp hq) (mul_np ip iq), inv_prod hn ip iq, inv_inv hn hp, inv_inv hn hq, inv_prod hn hp hq]
/-- Led by a product. -/
theorem con_mul {n : Nat} (hn : n ≤ 16) {x p q : Nat → Nat} (hx : Np n x) (hp : Np n p) (hq : Np n q) : conF n x (mulF n p q) = conF n (conF n x p) q := by
  have ip := inv_np hn hp
  have iq := inv_np hn hq
  unfold conF
  rw [inv_prod hn hp hq, mul_assoc iq ip hx, mul_assoc iq (mul_np ip hx) (mul_np hp hq), ← mul_assoc (mul_np ip hx) hp hq, ← mul_assoc iq (mul_np (mul_np ip hx) hp) hq]
theorem con_one {n : Nat} (hn : n ≤ 16) {x : Nat → Nat} (hx : Np n x) : conF n x (sameF n) = x := by
  unfold conF
  rw [inv_one hn, one_mul hx, mul_one hx]
theorem Der.np {n : Nat} (hn : n ≤ 16) {L : List (Nat → Nat)} (hL : ∀ g ∈ L, Np n g) {p : Nat → Nat} (h : Der n L p) : Np n p := by
  induction h with
  | one => exact one_np n
  | mul _ _ h1 h2 => exact mul_np h1 h2
  | com h1 h2 => exact com_np hn (hL _ h1) (hL _ h2)
  | con _ h2 h1 => exact con_np hn h1 (hL _ h2)
theorem Der.grp {n : Nat} (hn : n ≤ 16) {L : List (Nat → Nat)} (hL : ∀ g ∈ L, Np n g) {p : Nat → Nat} (h : Der n L p) : Grp n L p := by
  induction h with
  | one => exact .one
  | mul _ _ h1 h2 => exact h1.comp hL h2
  | com h1 h2 =>
    have g1 := Grp.gen hL h1
    have g2 := Grp.gen hL h2
    exact (g1.comp hL g2).comp hL ((g1.inv hn hL).comp hL (g2.inv hn hL))
  | con _ h2 h1 =>
    have g2 := Grp.gen hL h2
    exact ((g2.inv hn hL).comp hL h1).comp hL g2
theorem Der.inv {n : Nat} (hn : n ≤ 16) {L : List (Nat → Nat)} (hL : ∀ g ∈ L, Np n g) {p : Nat → Nat} (h : Der n L p) : Der n L (backTo p n) := by
  have hp := h.np hn hL
  have hpow : ∀ k, Der n L (powF n p k) := fun k => by
    induction k with
    | zero => exact .one
    | succ k ih => exact .mul ih h
  have e : backTo p n = powF n p 720719 := by
    refine np_ext (inv_np hn hp) (pow_np hp _) fun i hi => ?_
    obtain ⟨x, hx, rfl⟩ := perm_surj hn hp.perm hi
    rw [inv_back hp hx, pow_it (hp.perm.lt x hx)]
    have h1 := it_big hn hp.perm hx
    have h2 := it_add p x 1 720719
    rw [show 1 + 720719 = 720720 from rfl, h1] at h2
    exact h2
  rw [e]; exact hpow _
/-- Led by any of the group. -/
theorem Der.conG {n : Nat} (hn : n ≤ 16) {L : List (Nat → Nat)} (hL : ∀ g ∈ L, Np n g) {x a : Nat → Nat} (hx : Der n L x) (ha : Grp n L a) : Der n L (conF n x a) := by
  induction ha generalizing x with
  | one => rw [con_one hn (hx.np hn hL)]; exact hx
  | mul h1 hm ih =>
    rw [con_mul hn (hx.np hn hL) (h1.np hL) (hL _ hm)]
    exact .con (ih hx) hm
/-- .. back. -/
theorem Der.conB {n : Nat} (hn : n ≤ 16) {L : List (Nat → Nat)} (hL : ∀ g ∈ L, Np n g) {x a : Nat → Nat} (hx : Der n L x) (ha : Grp n L a) : Der n L (mulF n (mulF n a x) (backTo a n)) := by
  have h := hx.conG hn hL (ha.inv hn hL)
  unfold conF at h
  rwa [inv_inv hn (ha.np hL)] at h
theorem at_inv {n : Nat} (hn : n ≤ 16) {a : Nat → Nat} (ha : Np n a) {x : Nat} (hx : x < n) : a (backTo a n x) = x := by
  obtain ⟨y, hy, rfl⟩ := perm_surj hn ha.perm hx
  rw [inv_back ha hy]
/-- The commutator of a product and one more. -/
theorem com_left {n : Nat} (hn : n ≤ 16) {a p b : Nat → Nat} (ha : Np n a) (hp : Np n p) (hb : Np n b) : comF n (mulF n a p) b = mulF n (mulF n (mulF n a (comF n p b)) (backTo a n)) (comF n a b) := by
  have ia := inv_np hn ha
  have ip := inv_np hn hp
  have ib := inv_np hn hb
  refine np_ext (com_np hn (mul_np ha hp) hb) (mul_np (mul_np (mul_np ha (com_np hn hp hb)) ia) (com_np hn ha hb)) fun i hi => ?_
  have h1 := ha.perm.lt i hi
  have h2 := hp.perm.lt _ h1
  have h3 := hb.perm.lt _ h2
  have h4 := ip.perm.lt _ h3
  have h5 := ia.perm.lt _ h4
  have h6 := ib.perm.lt _ h4
  have h7 := ia.perm.lt _ h6
  have h8 := ha.perm.lt _ h7
  have h9 := hb.perm.lt _ h8
  unfold comF
  rw [inv_prod hn ha hp]
  simp only [mul_at hi, mul_at h1, mul_at h2, mul_at h3, mul_at h4, mul_at h6, mul_at h7, mul_at h8, mul_at h9, at_inv hn ha h6, at_inv hn hb h4]
theorem com_right {n : Nat} (hn : n ≤ 16) {a p b : Nat → Nat} (ha : Np n a) (hp : Np n p) (hb : Np n b) : comF n b (mulF n a p) = mulF n (comF n b a) (mulF n (mulF n a (comF n b p)) (backTo a n)) := by
  rw [← com_inv hn (mul_np ha hp) hb, com_left hn ha hp hb, inv_prod hn (mul_np (mul_np ha (com_np hn hp hb)) (inv_np hn ha)) (com_np hn ha hb), com_inv hn ha hb, inv_prod hn (mul_np ha (com_np hn hp hb)) (inv_np hn ha), inv_inv hn ha, inv_prod hn ha (com_np hn hp hb), com_inv hn hp hb, mul_assoc ha (com_np hn hb hp) (inv_np hn ha)]

/-- Commutators of the group. -/
theorem Der.comL {n : Nat} (hn : n ≤ 16) {L : List (Nat → Nat)} (hL : ∀ g ∈ L, Np n g) {a b : Nat → Nat} (ha : Grp n L a) (hb : b ∈ L) : Der n L (comF n a b) := by
  have nb := hL b hb
  induction ha with
  | one =>
    have : comF n (sameF n) b = sameF n := by
      unfold comF
      rw [one_mul nb, inv_one hn, one_mul (inv_np hn nb), mul_inv hn nb]
    rw [this]; exact .one
  | mul h1 hm ih =>
    rw [com_left hn (h1.np hL) (hL _ hm) nb]
    exact .mul (Der.conB hn hL (.com hm hb) h1) ih
theorem Der.comG {n : Nat} (hn : n ≤ 16) {L : List (Nat → Nat)} (hL : ∀ g ∈ L, Np n g) {a b : Nat → Nat} (ha : Grp n L a) (hb : Grp n L b) : Der n L (comF n a b) := by
  have na := ha.np hL
  induction hb with
  | one =>
    have : comF n a (sameF n) = sameF n := by
      unfold comF
      rw [mul_one na, inv_one hn, mul_one (inv_np hn na), mul_inv hn na]
    rw [this]; exact .one
  | mul h1 hm ih =>
    rw [com_right hn (h1.np hL) (hL _ hm) na]
    exact .mul ih (Der.conB hn hL (Der.comL hn hL ha hm) h1)

/-- The derived group hangs on the group alone. -/
theorem Der.same {n : Nat} (hn : n ≤ 16) {L : List (Nat → Nat)} {L' : List (Nat → Nat)} (hL' : ∀ g ∈ L', Np n g) (h : ∀ g ∈ L, Grp n L' g) {p : Nat → Nat} (hp : Der n L p) : Der n L' p := by
  induction hp with
  | one => exact .one
  | mul _ _ h1 h2 => exact .mul h1 h2
  | com h1 h2 => exact Der.comG hn hL' (h _ h1) (h _ h2)
  | con _ h2 h1 => exact Der.conG hn hL' h1 (h _ h2)

/-! ### Greater groups have fewer free places -/
/-- Two groups, the one within the other, whose tables tell the same, are the same. -/
theorem grp_back {n : Nat} (hn : n ≤ 16) {L' : List (Nat → Nat)} (hL' : ∀ g ∈ L', Np n g) {has : Nat → Nat → Bool} {tab : Nat → Nat → Nat → Nat} (hT : TblOk n has tab) (hin : ∀ i k, i < n → has i k = true → Grp n L' (tab i k)) {has' : Nat → Nat → Bool} (ht : Tells n L' has') (hs : ∀ i k, i < n → has' i k = true → has i k = true) :
    ∀ d, d ≤ n → ∀ g, Grp n L' g → (∀ j, j < n - d → g j = j) → InT n has tab d g
  | 0, _, g, hg, hf => np_ext (hg.np hL') (one_np n) fun i hi => by rw [hf i (by omega), one_at hi]
  | d + 1, hd, g, hg, hf => by
    have hlt : n - (d + 1) < n := by omega
    have hng := hg.np hL'
    have hh : has (n - (d + 1)) (g (n - (d + 1))) = true := hs _ _ hlt ((ht _ _ hlt).2 ⟨g, hg, hf, rfl⟩)
    refine (InT.peel hn hT hd).2 ⟨hng, hh, ?_⟩
    obtain ⟨h1, h2⟩ := left_fix hn hT hlt hng hf hh
    exact grp_back hn hL' hT hin ht hs d (by omega) _ (hg.comp hL' ((hin _ _ hlt hh).inv hn hL')) fun j hj => h2 j (by omega)

/-- What holds of the permutations found so far, and of their table. -/
structure DI (n : Nat) (L E : List (Nat → Nat)) (has : Nat → Nat → Bool) (tab : Nat → Nat → Nat → Nat) : Prop where
  ok : GrOk n E has tab
  der : ∀ g ∈ E, Der n L g
  len : E.length + freeF has n ≤ 256

theorem DI.start {n : Nat} (hn : n ≤ 16) {L : List (Nat → Nat)} {has : Nat → Nat → Bool} {tab : Nat → Nat → Nat → Nat} (h : GrOk n [] has tab) : DI n L [] has tab :=
  ⟨h, fun g hg => absurd hg List.not_mem_nil, by have := free_le has n; simp only [List.length_nil]; omega⟩

theorem DI.np {n : Nat} (hn : n ≤ 16) {L E : List (Nat → Nat)} (hL : ∀ g ∈ L, Np n g) {has : Nat → Nat → Bool} {tab : Nat → Nat → Nat → Nat} (h : DI n L E has tab) : ∀ g ∈ E, Np n g := fun g hg => (h.der g hg).np hn hL

theorem DI.grow {n : Nat} (hn : n ≤ 16) {L E : List (Nat → Nat)} (hL : ∀ g ∈ L, Np n g) {has has' : Nat → Nat → Bool} {tab tab' : Nat → Nat → Nat → Nat} (h : DI n L E has tab) {x : Nat → Nat} (hx : Der n L x) (hno : ¬ Grp n E x) (h' : GrOk n (E ++ [x]) has' tab') : DI n L (E ++ [x]) has' tab' ∧ freeF has' n + 1 ≤ freeF has n := by
  have nE := h.np hn hL
  have nx := hx.np hn hL
  have nE' : ∀ g ∈ E ++ [x], Np n g := fun g hg => by
    rcases List.mem_append.1 hg with hg | hg
    · exact nE g hg
    · simp only [List.mem_singleton] at hg; subst hg; exact nx
  have mono : ∀ g, Grp n E g → Grp n (E ++ [x]) g := fun g hg => hg.mono fun g hg => by simp [hg]
  have hs : ∀ i k, i < n → has i k = true → has' i k = true := fun i k hi hk => by
    obtain ⟨g, h1, h2⟩ := (h.ok.2.1 i k hi).1 hk
    exact (h'.2.1 i k hi).2 ⟨g, mono g h1, h2⟩
  have hf : freeF has' n + 1 ≤ freeF has n := by
    refine Classical.byContradiction fun hc => hno ?_
    refine (h.ok.2.2.2 x nx).1 (grp_back hn nE' h.ok.1 (fun i k hi hk => mono _ (h.ok.2.2.1 i k hi hk)) h'.2.1 (fun i k hi hk => ?_) n (Nat.le_refl _) x (Grp.gen nE' (by simp)) fun j hj => absurd hj (by omega))
    cases e : has i k with
    | true => rfl
    | false => exact absurd (free_more (has := has) (has' := has') (l := i) (y := k) (by have := h'.1.lt i k hi hk; omega) e hk n (Nat.le_refl _) hs hi) hc
  refine ⟨⟨h', fun g hg => ?_, ?_⟩, hf⟩
  · rcases List.mem_append.1 hg with hg | hg
    · exact h.der g hg
    · simp only [List.mem_singleton] at hg; subst hg; exact hx
  · have := h.len
    simp only [List.length_append, List.length_singleton]; omega

/-! ### Series -/
abbrev Pd := (Nat → Nat) → Prop
noncomputable def tellP (G : Pd) (i k : Nat) : Bool := @decide (∃ g, G g ∧ (∀ j, j < i → g j = j) ∧ g i = k) (Classical.propDecidable _)
noncomputable def ordP (n : Nat) (G : Pd) : Nat := ordF n (tellP G) n
inductive DerP (n : Nat) (G : Pd) : Pd
  | one : DerP n G (sameF n)
  | mul {p q : Nat → Nat} : DerP n G p → DerP n G q → DerP n G (mulF n p q)
  | com {p q : Nat → Nat} : G p → G q → DerP n G (comF n p q)
  | con {p q : Nat → Nat} : DerP n G p → G q → DerP n G (conF n p q)

theorem der_P {n : Nat} (hn : n ≤ 16) {L : List (Nat → Nat)} (hL : ∀ g ∈ L, Np n g) : Der n L = DerP n (Grp n L) := by
  funext g
  refine propext ⟨fun h => ?_, fun h => ?_⟩
  · induction h with
    | one => exact .one
    | mul _ _ h1 h2 => exact .mul h1 h2
    | com h1 h2 => exact .com (.gen hL h1) (.gen hL h2)
    | con _ h2 h1 => exact .con h1 (.gen hL h2)
  · induction h with
    | one => exact .one
    | mul _ _ h1 h2 => exact .mul h1 h2
    | com h1 h2 => exact Der.comG hn hL h1 h2
    | con _ h2 h1 => exact Der.conG hn hL h1 h2

def DK (n : Nat) (G : Pd) : Nat → Pd
  | 0 => G
  | k + 1 => DerP n (DK n G k)
/-- The orders of the series. -/
noncomputable def serO (n : Nat) (G : Pd) (k : Nat) : Nat := ordP n (DK n G k)

/-- A group of permutations that some make, within the one before. -/
theorem DK.gens {n : Nat} (hn : n ≤ 16) {L E : List (Nat → Nat)} (hL : ∀ g ∈ L, Np n g) {G : Pd} {k : Nat} (hk : Grp n L = DK n G k) (hE : ∀ g, Grp n E g ↔ Der n L g) : Grp n E = DK n G (k + 1) := by
  show Grp n E = DerP n (DK n G k)
  rw [← hk, ← der_P hn hL]
  funext g
  exact propext (hE g)

/-- The free places of a group's table. -/
noncomputable def frK (n : Nat) (G : Pd) (k : Nat) : Nat := freeF (tellP (DK n G k)) n
theorem frK_le {n : Nat} (hn : n ≤ 16) (G : Pd) (k : Nat) : frK n G k ≤ 256 := by
  have := free_le (tellP (DK n G k)) n
  unfold frK; omega
/-- .. more of them, if the order is another one. -/
theorem DK.more {n : Nat} (hn : n ≤ 16) {L : List (Nat → Nat)} (hL : ∀ g ∈ L, Np n g) {G : Pd} {k : Nat} (h : Grp n L = DK n G k) (hne : serO n G (k + 1) ≠ serO n G k) : frK n G k + 1 ≤ frK n G (k + 1) := by
  have sub : ∀ g, DK n G (k + 1) g → DK n G k g := fun g hg => by
    have hg : DerP n (DK n G k) g := hg
    rw [← h, ← der_P hn hL] at hg
    rw [← h]
    exact hg.grp hn hL
  have hs : ∀ i y, i < n → tellP (DK n G (k + 1)) i y = true → tellP (DK n G k) i y = true := fun i y hi ht => by
    obtain ⟨g, h1, h2⟩ := (@decide_eq_true_iff _ (Classical.propDecidable _)).1 ht
    exact (@decide_eq_true_iff _ (Classical.propDecidable _)).2 ⟨g, sub g h1, h2⟩
  refine Classical.byContradiction fun hc => hne ?_
  unfold serO ordP
  refine ord_congr n fun l hl => cntB_congr n fun y hy => ?_
  cases e : tellP (DK n G (k + 1)) l y with
  | true => rw [hs l y hl e]
  | false =>
    cases e' : tellP (DK n G k) l y with
    | false => rfl
    | true =>
      have := free_more (has := tellP (DK n G (k + 1))) (has' := tellP (DK n G k)) (l := l) (y := y) (by omega) e e' n (Nat.le_refl _) hs hl
      exact absurd this hc

/-- Where the series stands still. -/
def Stop (n : Nat) (G : Pd) (k : Nat) : Prop := 1 ≤ k ∧ serO n G k = serO n G (k - 1) ∧ ∀ j, j + 1 < k → serO n G (j + 1) ≠ serO n G j
/-- Closed under products and inverses. -/
structure IsG (n : Nat) (G : Pd) : Prop where
  np : ∀ g, G g → Np n g
  one : G (sameF n)
  mul : ∀ p q, G p → G q → G (mulF n p q)
  inv : ∀ p, G p → G (backTo p n)
theorem Grp.isG {n : Nat} (hn : n ≤ 16) {L : List (Nat → Nat)} (hL : ∀ g ∈ L, Np n g) : IsG n (Grp n L) := ⟨fun g h => h.np hL, .one, fun p q h1 h2 => h1.comp hL h2, fun p h => h.inv hn hL⟩
theorem IsG.der {n : Nat} (hn : n ≤ 16) {G : Pd} (h : IsG n G) {g : Nat → Nat} (hg : DerP n G g) : G g := by
  induction hg with
  | one => exact h.one
  | mul _ _ h1 h2 => exact h.mul _ _ h1 h2
  | com h1 h2 => exact h.mul _ _ (h.mul _ _ h1 h2) (h.mul _ _ (h.inv _ h1) (h.inv _ h2))
  | con _ h2 h1 => exact h.mul _ _ (h.mul _ _ (h.inv _ h2) h1) h2
theorem IsG.next {n : Nat} (hn : n ≤ 16) {G : Pd} (h : IsG n G) : IsG n (DerP n G) where
  np g hg := h.np g (h.der hn hg)
  one := .one
  mul p q h1 h2 := .mul h1 h2
  inv p hp := by
    have np := h.np p (h.der hn hp)
    have hpow : ∀ k, DerP n G (powF n p k) := fun k => by
      induction k with
      | zero => exact .one
      | succ k ih => exact .mul ih hp
    have e : backTo p n = powF n p 720719 := by
      refine np_ext (inv_np hn np) (pow_np np _) fun i hi => ?_
      obtain ⟨x, hx, rfl⟩ := perm_surj hn np.perm hi
      rw [inv_back np hx, pow_it (np.perm.lt x hx)]
      have h1 := it_big hn np.perm hx
      have h2 := it_add p x 1 720719
      rw [show 1 + 720719 = 720720 from rfl, h1] at h2
      exact h2
    rw [e]; exact hpow _
theorem DK.isG {n : Nat} (hn : n ≤ 16) {G : Pd} (h : IsG n G) : ∀ k, IsG n (DK n G k)
  | 0 => h
  | k + 1 => (DK.isG hn h k).next hn
theorem DK.grow {n : Nat} (hn : n ≤ 16) {G : Pd} (h : IsG n G) {k : Nat} (hne : serO n G (k + 1) ≠ serO n G k) : frK n G k + 1 ≤ frK n G (k + 1) := by
  have hs : ∀ i y, i < n → tellP (DK n G (k + 1)) i y = true → tellP (DK n G k) i y = true := fun i y hi ht => by
    obtain ⟨g, h1, h2⟩ := (@decide_eq_true_iff _ (Classical.propDecidable _)).1 ht
    exact (@decide_eq_true_iff _ (Classical.propDecidable _)).2 ⟨g, (DK.isG hn h k).der hn h1, h2⟩
  refine Classical.byContradiction fun hc => hne ?_
  unfold serO ordP
  refine ord_congr n fun l hl => cntB_congr n fun y hy => ?_
  cases e : tellP (DK n G (k + 1)) l y with
  | true => rw [hs l y hl e]
  | false =>
    cases e' : tellP (DK n G k) l y with
    | false => rfl
    | true => exact absurd (free_more (has := tellP (DK n G (k + 1))) (has' := tellP (DK n G k)) (l := l) (y := y) (by omega) e e' n (Nat.le_refl _) hs hl) hc

theorem least_of {P : Nat → Prop} : ∀ n, P n → ∃ m, P m ∧ ∀ j, j < m → ¬ P j := by
  intro n
  induction n using Nat.strongRecOn with
  | ind n ih =>
    intro h
    by_cases hx : ∃ j, j < n ∧ P j
    · obtain ⟨j, h1, h2⟩ := hx
      exact ih j h1 h2
    · exact ⟨n, h, fun j h1 h2 => hx ⟨j, h1, h2⟩⟩

/-- The series stands still somewhere. -/
theorem Stop.ex {n : Nat} (hn : n ≤ 16) {G : Pd} (h : IsG n G) : ∃ k, Stop n G k ∧ k ≤ 257 := by
  have rise : ∀ k, (∀ j, j < k → serO n G (j + 1) ≠ serO n G j) → k ≤ frK n G k := fun k => by
    induction k with
    | zero => exact fun _ => Nat.zero_le _
    | succ k ih =>
      intro hj
      have h1 := ih fun j hlt => hj j (by omega)
      have h2 := DK.grow hn h (hj k (by omega))
      omega
  have hex : ∃ j, serO n G (j + 1) = serO n G j := by
    refine Classical.byContradiction fun hno => ?_
    have h1 := rise 257 fun j _ e => hno ⟨j, e⟩
    have h2 := frK_le hn G 257
    omega
  obtain ⟨j, hj⟩ := hex
  obtain ⟨m, h1, h2⟩ := least_of (P := fun j => serO n G (j + 1) = serO n G j) j hj
  have h3 := rise m h2
  have h4 := frK_le hn G m
  exact ⟨m + 1, ⟨by omega, by rw [Nat.add_sub_cancel]; exact h1, fun j hj => h2 j (by omega)⟩, by omega⟩

end Go.Proofs.Ytakapfgjdhliaaa
