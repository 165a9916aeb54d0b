import Derived.Test.YtakapfgjdhliaaaX34
import Derived.Test.YtakapfgjdhliaaaL11
/- Groups of permutations by tables, pure. -/
namespace Go.Proofs.Ytakapfgjdhliaaa
open Go.RowKit DM
set_option linter.unusedVariables false
set_option linter.unusedSimpArgs false

/-- A permutation of the numbers below n, written with 0 beyond. -/
structure Np (n : Nat) (p : Nat → Nat) : Prop where
  perm : Perm n p
  out : ∀ i, n ≤ i → p i = 0

/-- First p, then q. -/
def mulF (n : Nat) (p q : Nat → Nat) : Nat → Nat := fillF (fun i => q (p i)) n

theorem mul_at {n : Nat} {p q : Nat → Nat} {i : Nat} (h : i < n) : mulF n p q i = q (p i) := by simp only [mulF, fillF, if_pos h]
theorem mul_out {n : Nat} {p q : Nat → Nat} {i : Nat} (h : n ≤ i) : mulF n p q i = 0 := by simp only [mulF, fillF, if_neg (Nat.not_lt.2 h)]
theorem one_at {n i : Nat} (h : i < n) : sameF n i = i := by simp only [sameF, if_pos h]
theorem one_out {n i : Nat} (h : n ≤ i) : sameF n i = 0 := by simp only [sameF, if_neg (Nat.not_lt.2 h)]

theorem np_ext {n : Nat} {p q : Nat → Nat} (hp : Np n p) (hq : Np n q) (h : ∀ i, i < n → p i = q i) : p = q := by
  funext i
  by_cases hi : i < n
  · exact h i hi
  · rw [hp.out i (by omega), hq.out i (by omega)]
theorem one_np (n : Nat) : Np n (sameF n) := ⟨perm_same n, fun i hi => one_out hi⟩
theorem mul_np {n : Nat} {p q : Nat → Nat} (hp : Np n p) (hq : Np n q) : Np n (mulF n p q) :=
  ⟨⟨fun i hi => by rw [mul_at hi]; exact hq.perm.lt _ (hp.perm.lt i hi), fun i j hi hj e => by
    rw [mul_at hi, mul_at hj] at e
    exact hp.perm.inj i j hi hj (hq.perm.inj _ _ (hp.perm.lt i hi) (hp.perm.lt j hj) e)⟩, fun i hi => mul_out hi⟩
theorem back_out {p : Nat → Nat} {n : Nat} (hp : Perm n p) : ∀ k, k ≤ n → ∀ j, n ≤ j → backTo p k j = 0
  | 0, _, _, _ => rfl
  | k + 1, hk, j, hj => by
    simp only [backTo, up]
    have := hp.lt k (by omega)
    rw [if_neg (by omega)]
    exact back_out hp k (by omega) j hj
theorem inv_np {n : Nat} (hn : n ≤ 16) {p : Nat → Nat} (hp : Np n p) : Np n (backTo p n) := ⟨perm_back hn hp.perm, fun i hi => back_out hp.perm n (Nat.le_refl _) i hi⟩

theorem mul_assoc {n : Nat} {p q r : Nat → Nat} (hp : Np n p) (hq : Np n q) (hr : Np n r) : mulF n (mulF n p q) r = mulF n p (mulF n q r) :=
  np_ext (mul_np (mul_np hp hq) hr) (mul_np hp (mul_np hq hr)) fun i hi => by rw [mul_at hi, mul_at hi, mul_at hi, mul_at (hp.perm.lt i hi)]
theorem mul_one {n : Nat} {p : Nat → Nat} (hp : Np n p) : mulF n p (sameF n) = p :=
  np_ext (mul_np hp (one_np n)) hp fun i hi => by rw [mul_at hi, one_at (hp.perm.lt i hi)]
theorem one_mul {n : Nat} {p : Nat → Nat} (hp : Np n p) : mulF n (sameF n) p = p :=
  np_ext (mul_np (one_np n) hp) hp fun i hi => by rw [mul_at hi, one_at hi]
theorem mul_inv {n : Nat} (hn : n ≤ 16) {p : Nat → Nat} (hp : Np n p) : mulF n p (backTo p n) = sameF n :=
  np_ext (mul_np hp (inv_np hn hp)) (one_np n) fun i hi => by rw [mul_at hi, one_at hi]; exact backTo_at hp.perm n (Nat.le_refl _) i hi
theorem inv_mul {n : Nat} (hn : n ≤ 16) {p : Nat → Nat} (hp : Np n p) : mulF n (backTo p n) p = sameF n :=
  np_ext (mul_np (inv_np hn hp) hp) (one_np n) fun i hi => by
    rw [mul_at hi, one_at hi]
    obtain ⟨x, hx, rfl⟩ := perm_surj hn hp.perm hi
    rw [backTo_at hp.perm n (Nat.le_refl _) x hx]
theorem inv_one {n : Nat} (hn : n ≤ 16) : backTo (sameF n) n = sameF n := by
  have h := mul_inv hn (one_np n)
  rwa [one_mul (inv_np hn (one_np n))] at h
theorem inv_back {n : Nat} {p : Nat → Nat} (hp : Np n p) {x : Nat} (hx : x < n) : backTo p n (p x) = x := backTo_at hp.perm n (Nat.le_refl _) x hx

/-- The group of some permutations: their products. -/
inductive Grp (n : Nat) (gens : List (Nat → Nat)) : (Nat → Nat) → Prop
  | one : Grp n gens (sameF n)
  | mul {p g : Nat → Nat} : Grp n gens p → g ∈ gens → Grp n gens (mulF n p g)

theorem Grp.np {n : Nat} {gens : List (Nat → Nat)} (hg : ∀ g ∈ gens, Np n g) {p : Nat → Nat} (h : Grp n gens p) : Np n p := by
  induction h with
  | one => exact one_np n
  | mul _ hm ih => exact mul_np ih (hg _ hm)
theorem Grp.gen {n : Nat} {gens : List (Nat → Nat)} (hg : ∀ g ∈ gens, Np n g) {g : Nat → Nat} (h : g ∈ gens) : Grp n gens g := by
  have := Grp.mul (Grp.one (n := n) (gens := gens)) h
  rwa [one_mul (hg g h)] at this
theorem Grp.comp {n : Nat} {gens : List (Nat → Nat)} (hg : ∀ g ∈ gens, Np n g) {p q : Nat → Nat} (hp : Grp n gens p) (hq : Grp n gens q) : Grp n gens (mulF n p q) := by
  induction hq with
  | one => rw [mul_one (hp.np hg)]; exact hp
  | mul h1 h2 ih =>
    rw [← mul_assoc (hp.np hg) (h1.np hg) (hg _ h2)]
    exact .mul ih h2

/-- A table: at level i, by the number k to which i is led. -/
structure TblOk (n : Nat) (has : Nat → Nat → Bool) (tab : Nat → Nat → Nat → Nat) : Prop where
  diag : ∀ i, i < n → has i i = true ∧ tab i i = sameF n
  lt : ∀ i k, i < n → has i k = true → k < n
  np : ∀ i k, i < n → has i k = true → Np n (tab i k)
  fix : ∀ i k, i < n → has i k = true → ∀ j, j < i → tab i k j = j
  at_ : ∀ i k, i < n → has i k = true → tab i k i = k

/-- The products of the table's entries from level n - d on. -/
def InT (n : Nat) (has : Nat → Nat → Bool) (tab : Nat → Nat → Nat → Nat) : Nat → (Nat → Nat) → Prop
  | 0, r => r = sameF n
  | d + 1, r => ∃ k, has (n - (d + 1)) k = true ∧ ∃ h, InT n has tab d h ∧ r = mulF n h (tab (n - (d + 1)) k)

theorem InT.np {n : Nat} {has : Nat → Nat → Bool} {tab : Nat → Nat → Nat → Nat} (hT : TblOk n has tab) : ∀ {d : Nat} {r : Nat → Nat}, d ≤ n → InT n has tab d r → Np n r ∧ ∀ j, j < n - d → r j = j
  | 0, r, _, h => by
    have h : r = sameF n := h
    subst h; exact ⟨one_np n, fun j hj => one_at (by omega)⟩
  | d + 1, r, hd, ⟨k, hk, h, hh, e⟩ => by
    obtain ⟨h1, h2⟩ := InT.np hT (d := d) (by omega) hh
    have h3 := hT.np _ k (by omega) hk
    subst e
    refine ⟨mul_np h1 h3, fun j hj => ?_⟩
    rw [mul_at (by omega), h2 j (by omega)]
    exact hT.fix _ k (by omega) hk j hj

/-- What is left at the next level. -/
theorem InT.peel {n : Nat} (hn : n ≤ 16) {has : Nat → Nat → Bool} {tab : Nat → Nat → Nat → Nat} (hT : TblOk n has tab) {d : Nat} {r : Nat → Nat} (hd : d + 1 ≤ n) : InT n has tab (d + 1) r ↔ Np n r ∧ has (n - (d + 1)) (r (n - (d + 1))) = true ∧ InT n has tab d (mulF n r (backTo (tab (n - (d + 1)) (r (n - (d + 1)))) n)) := by
  constructor
  · rintro ⟨k, hk, h, hh, rfl⟩
    obtain ⟨h1, h2⟩ := InT.np hT (by omega) hh
    have h3 := hT.np _ k (by omega) hk
    have hlt : n - (d + 1) < n := by omega
    have e : mulF n h (tab (n - (d + 1)) k) (n - (d + 1)) = k := by
      rw [mul_at hlt, h2 _ (by omega)]; exact hT.at_ _ k hlt hk
    refine ⟨mul_np h1 h3, by rw [e]; exact hk, ?_⟩
    rw [e, mul_assoc h1 h3 (inv_np hn h3), mul_inv hn h3, mul_one h1]
    exact hh
  · rintro ⟨h1, h2, h3⟩
    have hlt : n - (d + 1) < n := by omega
    have h4 := hT.np _ _ hlt h2
    refine ⟨_, h2, _, h3, ?_⟩
    rw [mul_assoc h1 (inv_np hn h4) h4, inv_mul hn h4, mul_one h1]

theorem InT.one {n : Nat} (hn : n ≤ 16) {has : Nat → Nat → Bool} {tab : Nat → Nat → Nat → Nat} (hT : TblOk n has tab) : ∀ {d : Nat}, d ≤ n → InT n has tab d (sameF n)
  | 0, _ => rfl
  | d + 1, hd => by
    have h := hT.diag (n - (d + 1)) (by omega)
    refine ⟨_, h.1, sameF n, InT.one hn hT (by omega), ?_⟩
    rw [h.2, mul_one (one_np n)]

/-- One that keeps more belongs to a later level. -/
theorem InT.down {n : Nat} (hn : n ≤ 16) {has : Nat → Nat → Bool} {tab : Nat → Nat → Nat → Nat} (hT : TblOk n has tab) {d : Nat} {r : Nat → Nat} (hd : d + 1 ≤ n) (h : InT n has tab (d + 1) r) (hf : r (n - (d + 1)) = n - (d + 1)) : InT n has tab d r := by
  obtain ⟨h1, h2, h3⟩ := (InT.peel hn hT hd).1 h
  rw [hf, (hT.diag _ (by omega)).2, inv_one hn, mul_one h1] at h3
  exact h3
theorem InT.up {n : Nat} (hn : n ≤ 16) {has : Nat → Nat → Bool} {tab : Nat → Nat → Nat → Nat} (hT : TblOk n has tab) {d : Nat} {r : Nat → Nat} (hd : d + 1 ≤ n) (h : InT n has tab d r) : InT n has tab (d + 1) r := by
  have h1 := InT.np hT (by omega) h
  refine ⟨_, (hT.diag (n - (d + 1)) (by omega)).1, r, h, ?_⟩
  rw [(hT.diag _ (by omega)).2, mul_one h1.1]
theorem InT.downs {n : Nat} (hn : n ≤ 16) {has : Nat → Nat → Bool} {tab : Nat → Nat → Nat → Nat} (hT : TblOk n has tab) : ∀ {e d : Nat} {r : Nat → Nat}, d + e ≤ n → InT n has tab (d + e) r → (∀ j, j < n - d → r j = j) → InT n has tab d r
  | 0, _, _, _, h, _ => h
  | e + 1, d, r, hd, h, hf => InT.downs hn hT (by omega) (InT.down hn hT (by omega) h (hf _ (by omega))) hf
theorem InT.entry {n : Nat} (hn : n ≤ 16) {has : Nat → Nat → Bool} {tab : Nat → Nat → Nat → Nat} (hT : TblOk n has tab) {d k : Nat} (hd : d + 1 ≤ n) (hk : has (n - (d + 1)) k = true) : InT n has tab (d + 1) (tab (n - (d + 1)) k) :=
  ⟨k, hk, sameF n, InT.one hn hT (by omega), (one_mul (hT.np _ k (by omega) hk)).symm⟩

/-- A group table: level by level it is closed. -/
theorem InT.closed {n : Nat} (hn : n ≤ 16) {has : Nat → Nat → Bool} {tab : Nat → Nat → Nat → Nat} (hT : TblOk n has tab) (hp : ∀ i k j l, i < n → j < n → has i k = true → has j l = true → InT n has tab n (mulF n (tab i k) (tab j l))) : ∀ d, d ≤ n → ∀ r s, InT n has tab d r → InT n has tab d s → InT n has tab d (mulF n r s)
  | 0, _, r, s, hr, hs => by
    have hr : r = sameF n := hr
    have hs : s = sameF n := hs
    subst hr; subst hs; exact mul_one (one_np n)
  | d + 1, hd, r, s, hr, hs => by
    have ih := InT.closed hn hT hp d (by omega)
    obtain ⟨k, hk, h, hh, rfl⟩ := hr
    have hlt : n - (d + 1) < n := by omega
    have nh := (InT.np hT (by omega) hh).1
    have nk := hT.np _ k hlt hk
    -- an entry of this level, then something later
    have key : ∀ c, c ≤ d → ∀ s', InT n has tab c s' → ∀ k, has (n - (d + 1)) k = true → ∃ h' k', InT n has tab d h' ∧ has (n - (d + 1)) k' = true ∧ mulF n (tab (n - (d + 1)) k) s' = mulF n h' (tab (n - (d + 1)) k') := by
      intro c
      induction c with
      | zero =>
        intro _ s' hs' k hk
        have hs' : s' = sameF n := hs'
        subst hs'
        refine ⟨sameF n, k, InT.one hn hT (by omega), hk, ?_⟩
        rw [mul_one (hT.np _ k hlt hk), one_mul (hT.np _ k hlt hk)]
      | succ c ihc =>
        intro hc s' hs' k hk
        obtain ⟨l, hl, g, hg, rfl⟩ := hs'
        have hlt2 : n - (c + 1) < n := by omega
        have nk := hT.np _ k hlt hk
        have ng := (InT.np hT (by omega) hg).1
        have nl := hT.np _ l hlt2 hl
        obtain ⟨h1, k1, i1, i2, e1⟩ := ihc (by omega) g hg k hk
        have nh1 := (InT.np hT (by omega) i1).1
        have nk1 := hT.np _ k1 hlt i2
        have hpr := hp _ k1 _ l hlt hlt2 i2 hl
        have hpr2 : InT n has tab (d + 1) (mulF n (tab (n - (d + 1)) k1) (tab (n - (c + 1)) l)) := by
          refine InT.downs hn hT (e := n - (d + 1)) (by omega) (by rw [show d + 1 + (n - (d + 1)) = n by omega]; exact hpr) fun j hj => ?_
          rw [mul_at (by omega), hT.fix _ k1 hlt i2 j (by omega)]
          exact hT.fix _ l hlt2 hl j (by omega)
        obtain ⟨k2, i3, h2, i4, e2⟩ := hpr2
        have nh2 := (InT.np hT (by omega) i4).1
        refine ⟨mulF n h1 h2, k2, ih h1 h2 i1 i4, i3, ?_⟩
        rw [← mul_assoc nk ng nl, e1, mul_assoc nh1 nk1 nl, e2, mul_assoc nh1 nh2 (hT.np _ k2 hlt i3)]
    obtain ⟨k', hk', h', hh', rfl⟩ := hs
    have nh' := (InT.np hT (by omega) hh').1
    have nk' := hT.np _ k' hlt hk'
    obtain ⟨h1, k1, i1, i2, e1⟩ := key d (Nat.le_refl _) h' hh' k hk
    have nh1 := (InT.np hT (by omega) i1).1
    have nk1 := hT.np _ k1 hlt i2
    have hpr2 : InT n has tab (d + 1) (mulF n (tab (n - (d + 1)) k1) (tab (n - (d + 1)) k')) := by
      refine InT.downs hn hT (e := n - (d + 1)) (by omega) (by rw [show d + 1 + (n - (d + 1)) = n by omega]; exact hp _ k1 _ k' hlt hlt i2 hk') fun j hj => ?_
      rw [mul_at (by omega), hT.fix _ k1 hlt i2 j hj]
      exact hT.fix _ k' hlt hk' j hj
    obtain ⟨k2, i3, h2, i4, e2⟩ := hpr2
    have nh2 := (InT.np hT (by omega) i4).1
    refine ⟨k2, i3, mulF n (mulF n h h1) h2, ih _ _ (ih _ _ hh i1) i4, ?_⟩
    have nk2 := hT.np _ k2 hlt i3
    rw [mul_assoc nh nk (mul_np nh' nk'), ← mul_assoc nk nh' nk', e1, mul_assoc nh1 nk1 nk', e2, ← mul_assoc nh nh1 (mul_np nh2 nk2), ← mul_assoc (mul_np nh nh1) nh2 nk2]

/-- What a table tells of a group. -/
def Tells (n : Nat) (gens : List (Nat → Nat)) (has : Nat → Nat → Bool) : Prop := ∀ i k, i < n → (has i k = true ↔ ∃ g, Grp n gens g ∧ (∀ j, j < i → g j = j) ∧ g i = k)

theorem InT.grp {n : Nat} {has : Nat → Nat → Bool} {tab : Nat → Nat → Nat → Nat} (hT : TblOk n has tab) {gens : List (Nat → Nat)} (hg : ∀ g ∈ gens, Np n g) (hin : ∀ i k, i < n → has i k = true → Grp n gens (tab i k)) : ∀ {d : Nat} {r : Nat → Nat}, d ≤ n → InT n has tab d r → Grp n gens r
  | 0, r, _, h => by
    have h : r = sameF n := h
    subst h; exact .one
  | d + 1, r, hd, ⟨k, hk, h, hh, e⟩ => by
    subst e
    exact (InT.grp hT hg hin (by omega) hh).comp hg (hin _ k (by omega) hk)

theorem tells_of {n : Nat} (hn : n ≤ 16) {has : Nat → Nat → Bool} {tab : Nat → Nat → Nat → Nat} (hT : TblOk n has tab) {gens : List (Nat → Nat)} (hg : ∀ g ∈ gens, Np n g) (hin : ∀ i k, i < n → has i k = true → Grp n gens (tab i k)) (hall : ∀ g, Grp n gens g → InT n has tab n g) : Tells n gens has := by
  intro i k hi
  constructor
  · intro h
    exact ⟨tab i k, hin i k hi h, hT.fix i k hi h, hT.at_ i k hi h⟩
  · rintro ⟨g, h1, h2, rfl⟩
    have h3 := hall g h1
    have h4 : InT n has tab (n - i - 1 + 1) g := InT.downs hn hT (e := i) (by omega) (by rw [show n - i - 1 + 1 + i = n by omega]; exact h3) fun j hj => h2 j (by omega)
    have h5 := ((InT.peel hn hT (by omega)).1 h4).2.1
    rw [show n - (n - i - 1 + 1) = i by omega] at h5
    exact h5

/-- With all products of two entries in the table, and the generators, it holds the group. -/
theorem tbl_all {n : Nat} (hn : n ≤ 16) {has : Nat → Nat → Bool} {tab : Nat → Nat → Nat → Nat} (hT : TblOk n has tab) {gens : List (Nat → Nat)} (hp : ∀ i k j l, i < n → j < n → has i k = true → has j l = true → InT n has tab n (mulF n (tab i k) (tab j l))) (hgi : ∀ g ∈ gens, InT n has tab n g) : ∀ g, Grp n gens g → InT n has tab n g := by
  intro g h
  induction h with
  | one => exact InT.one hn hT (Nat.le_refl _)
  | mul _ hm ih => exact InT.closed hn hT hp n (Nat.le_refl _) _ _ ih (hgi _ hm)

end Go.Proofs.Ytakapfgjdhliaaa

/- Parity: a permutation's numbers less its cycles. -/
namespace Go.Proofs.Ytakapfgjdhliaaa
open Go.RowKit DM
set_option linter.unusedVariables false
set_option linter.unusedSimpArgs false

/-- p, k times. -/
def itF (p : Nat → Nat) : Nat → Nat → Nat
  | 0, x => x
  | k + 1, x => p (itF p k x)
theorem it_lt {n : Nat} {p : Nat → Nat} (hp : ∀ i, i < n → p i < n) {x : Nat} (hx : x < n) : ∀ k, itF p k x < n
  | 0 => hx
  | k + 1 => hp _ (it_lt hp hx k)
theorem it_add (p : Nat → Nat) (x : Nat) (j : Nat) : ∀ k, itF p (j + k) x = itF p k (itF p j x)
  | 0 => rfl
  | k + 1 => congrArg p (it_add p x j k)

end Go.Proofs.Ytakapfgjdhliaaa

/- Groups by tables: sifting, inverses; the program's way to fill a table. -/
namespace Go.Proofs.Ytakapfgjdhliaaa
open Go.RowKit DM
set_option linter.unusedVariables false
set_option linter.unusedSimpArgs false

/-! ### Inverses are powers -/
theorem it_inj {n : Nat} {p : Nat → Nat} (hp : Perm n p) {x y : Nat} (hx : x < n) (hy : y < n) : ∀ k, itF p k x = itF p k y → x = y
  | 0, h => h
  | k + 1, h => it_inj hp hx hy k (hp.inj _ _ (it_lt hp.lt hx k) (it_lt hp.lt hy k) h)

theorem it_period {n : Nat} {p : Nat → Nat} (hp : Perm n p) {x : Nat} (hx : x < n) : ∃ k, 1 ≤ k ∧ k ≤ n ∧ itF p k x = x := by
  refine Classical.byContradiction fun hno => ?_
  have hd : ∀ i j, i ≤ n → j ≤ n → i < j → itF p i x ≠ itF p j x := fun i j hi hj hij e => by
    refine hno ⟨j - i, by omega, by omega, ?_⟩
    have h1 := it_add p x (j - i) i
    rw [show j - i + i = j by omega, ← e] at h1
    exact (it_inj hp hx (it_lt hp.lt hx _) i h1).symm
  have hl := nodup_len n ((List.range (n + 1)).map fun k => itF p k x) (by
    unfold List.Nodup
    rw [List.pairwise_map]
    refine List.Pairwise.imp_of_mem ?_ List.pairwise_lt_range
    intro a b ha hb hab
    exact hd a b (by have := List.mem_range.1 ha; omega) (by have := List.mem_range.1 hb; omega) hab) fun y hy => by
      obtain ⟨k, _, rfl⟩ := List.mem_map.1 hy
      exact it_lt hp.lt hx k
  simp at hl
  omega

theorem it_mul {p : Nat → Nat} {x k : Nat} (h : itF p k x = x) : ∀ m, itF p (k * m) x = x
  | 0 => rfl
  | m + 1 => by
    rw [Nat.mul_succ, it_add, it_mul h m]; exact h

theorem dvd_all : ∀ k, k ≤ 16 → 1 ≤ k → k ∣ 720720 := by decide

theorem it_big {n : Nat} (hn : n ≤ 16) {p : Nat → Nat} (hp : Perm n p) {x : Nat} (hx : x < n) : itF p 720720 x = x := by
  obtain ⟨k, h1, h2, h3⟩ := it_period hp hx
  obtain ⟨m, e⟩ := dvd_all k (by omega) h1
  rw [e]; exact it_mul h3 m

def powF (n : Nat) (p : Nat → Nat) : Nat → Nat → Nat
  | 0 => sameF n
  | k + 1 => mulF n (powF n p k) p
theorem pow_np {n : Nat} {p : Nat → Nat} (hp : Np n p) : ∀ k, Np n (powF n p k)
  | 0 => one_np n
  | k + 1 => mul_np (pow_np hp k) hp
theorem pow_it {n : Nat} {p : Nat → Nat} {x : Nat} (hx : x < n) : ∀ k, powF n p k x = itF p k x
  | 0 => one_at hx
  | k + 1 => by simp only [powF]; rw [mul_at hx, pow_it hx k]; rfl

theorem Grp.inv {n : Nat} (hn : n ≤ 16) {gens : List (Nat → Nat)} (hg : ∀ g ∈ gens, Np n g) {p : Nat → Nat} (h : Grp n gens p) : Grp n gens (backTo p n) := by
  have hp := h.np hg
  have hpow : ∀ k, Grp n gens (powF n p k) := fun k => by
    induction k with
    | zero => exact .one
    | succ k ih => exact ih.comp hg h
  have e : backTo p n = powF n p 720719 := by
    refine np_ext (inv_np hn hp) (pow_np hp _) fun i hi => ?_
    obtain ⟨x, hx, rfl⟩ := perm_surj hn hp.perm hi
    rw [inv_back hp hx, pow_it (hp.perm.lt x hx)]
    have h1 := it_big hn hp.perm hx
    have h2 := it_add p x 1 720719
    rw [show 1 + 720719 = 720720 from rfl, h1] at h2
    exact h2
  rw [e]; exact hpow _

/-! ### Sifting -/
/-- What is left of p at level n - d, and the level where it stops. -/
def siftF (n : Nat) (has : Nat → Nat → Bool) (tab : Nat → Nat → Nat → Nat) : Nat → (Nat → Nat) → (Nat → Nat) × Nat
  | 0, p => (p, n)
  | d + 1, p => bif has (n - (d + 1)) (p (n - (d + 1))) then siftF n has tab d (if p (n - (d + 1)) = n - (d + 1) then p else mulF n p (backTo (tab (n - (d + 1)) (p (n - (d + 1)))) n)) else (p, n - (d + 1))

/-- A greater table. -/
structure Ext (n : Nat) (has : Nat → Nat → Bool) (tab : Nat → Nat → Nat → Nat) (has' : Nat → Nat → Bool) (tab' : Nat → Nat → Nat → Nat) : Prop where
  hs : ∀ i k, i < n → has i k = true → has' i k = true
  tb : ∀ i k, i < n → has i k = true → tab' i k = tab i k

theorem InT.ext {n : Nat} {has has' : Nat → Nat → Bool} {tab tab' : Nat → Nat → Nat → Nat} (h : Ext n has tab has' tab') : ∀ {d : Nat} {r : Nat → Nat}, d ≤ n → InT n has tab d r → InT n has' tab' d r
  | 0, _, _, h => h
  | d + 1, r, hd, ⟨k, hk, g, hh, e⟩ => by
    have hlt : n - (d + 1) < n := by omega
    exact ⟨k, h.hs _ k hlt hk, g, InT.ext h (by omega) hh, by rw [h.tb _ k hlt hk]; exact e⟩

theorem sift_next {n : Nat} (hn : n ≤ 16) {has : Nat → Nat → Bool} {tab : Nat → Nat → Nat → Nat} (hT : TblOk n has tab) {i : Nat} (hi : i < n) {p : Nat → Nat} (hp : Np n p) : (if p i = i then p else mulF n p (backTo (tab i (p i)) n)) = mulF n p (backTo (tab i (p i)) n) := by
  by_cases e : p i = i
  · rw [if_pos e, e, (hT.diag i hi).2, inv_one hn, mul_one hp]
  · rw [if_neg e]

structure Left (n : Nat) (has : Nat → Nat → Bool) (tab : Nat → Nat → Nat → Nat) (d : Nat) (p r : Nat → Nat) (l : Nat) : Prop where
  lt : l < n
  np : Np n r
  fix : ∀ j, j < l → r j = j
  no : has l (r l) = false
  grp : ∀ gens : List (Nat → Nat), (∀ g ∈ gens, Np n g) → (∀ i k, i < n → has i k = true → Grp n gens (tab i k)) → Grp n gens p → Grp n gens r
  new : ∀ has' tab', TblOk n has' tab' → Ext n has tab has' tab' → has' l (r l) = true → tab' l (r l) = r → InT n has' tab' d p

theorem sift_ok {n : Nat} (hn : n ≤ 16) {has : Nat → Nat → Bool} {tab : Nat → Nat → Nat → Nat} (hT : TblOk n has tab) : ∀ d, d ≤ n → ∀ p, Np n p → (∀ j, j < n - d → p j = j) →
    ((siftF n has tab d p).2 = n ∧ InT n has tab d p) ∨ Left n has tab d p (siftF n has tab d p).1 (siftF n has tab d p).2
  | 0, _, p, hp, hf => .inl ⟨rfl, np_ext hp (one_np n) fun i hi => by rw [hf i (by omega), one_at hi]⟩
  | d + 1, hd, p, hp, hf => by
    have hlt : n - (d + 1) < n := by omega
    simp only [siftF]
    cases hh : has (n - (d + 1)) (p (n - (d + 1))) with
    | false =>
      simp only [cond_false]
      refine .inr ⟨hlt, hp, hf, hh, fun gens _ _ h => h, fun has' tab' hT' hE h1 h2 => ?_⟩
      exact ⟨p (n - (d + 1)), h1, sameF n, InT.one hn hT' (by omega), by rw [h2, one_mul hp]⟩
    | true =>
      simp only [cond_true]
      rw [sift_next hn hT hlt hp]
      have hk := hT.np _ _ hlt hh
      have hm := mul_np hp (inv_np hn hk)
      have hf' : ∀ j, j < n - d → mulF n p (backTo (tab (n - (d + 1)) (p (n - (d + 1)))) n) j = j := fun j hj => by
        have hjn : j < n := by omega
        rw [mul_at hjn]
        by_cases e : j < n - (d + 1)
        · rw [hf j e]
          have h1 := hT.fix _ _ hlt hh j e
          have h2 := inv_back hk hjn
          rwa [h1] at h2
        · have e : j = n - (d + 1) := by omega
          subst e
          have h1 := hT.at_ _ _ hlt hh
          have h2 := inv_back hk hlt
          rwa [h1] at h2
      rcases sift_ok hn hT d (by omega) _ hm hf' with ⟨h1, h2⟩ | h
      · exact .inl ⟨h1, (InT.peel hn hT hd).2 ⟨hp, hh, h2⟩⟩
      · refine .inr ⟨h.lt, h.np, h.fix, h.no, fun gens hg hin hG => h.grp gens hg hin (hG.comp hg ((hin _ _ hlt hh).inv hn hg)), fun has' tab' hT' hE h1 h2 => ?_⟩
        refine (InT.peel hn hT' hd).2 ⟨hp, hE.hs _ _ hlt hh, ?_⟩
        rw [hE.tb _ _ hlt hh]
        exact h.new has' tab' hT' hE h1 h2

/-! ### Filling -/
def up2 {α : Type} (f : Nat → Nat → α) (i k : Nat) (v : α) : Nat → Nat → α := fun a b => if a = i ∧ b = k then v else f a b
theorem up2_same {α : Type} (f : Nat → Nat → α) (i k : Nat) (v : α) : up2 f i k v i k = v := by unfold up2; rw [if_pos ⟨rfl, rfl⟩]
theorem up2_ne {α : Type} (f : Nat → Nat → α) {i k a b : Nat} (v : α) (h : ¬ (a = i ∧ b = k)) : up2 f i k v a b = f a b := by unfold up2; rw [if_neg h]

theorem tbl_add {n : Nat} {has : Nat → Nat → Bool} {tab : Nat → Nat → Nat → Nat} (hT : TblOk n has tab) {l : Nat} {r : Nat → Nat} (hl : l < n) (hr : Np n r) (hf : ∀ j, j < l → r j = j) (hno : has l (r l) = false) :
    TblOk n (up2 has l (r l) true) (up2 tab l (r l) r) ∧ Ext n has tab (up2 has l (r l) true) (up2 tab l (r l) r) := by
  have hne : ∀ i k, has i k = true → ¬ (i = l ∧ k = r l) := fun i k h e => by rw [e.1, e.2, hno] at h; cases h
  refine ⟨⟨fun i hi => ?_, fun i k hi h => ?_, fun i k hi h => ?_, fun i k hi h => ?_, fun i k hi h => ?_⟩, fun i k _ h => by rw [up2_ne _ _ (hne i k h)]; exact h, fun i k _ h => up2_ne _ _ (hne i k h)⟩
  · obtain ⟨h1, h2⟩ := hT.diag i hi
    rw [up2_ne _ _ (hne i i h1), up2_ne _ _ (hne i i h1)]
    exact ⟨h1, h2⟩
  · by_cases e : i = l ∧ k = r l
    · obtain ⟨rfl, rfl⟩ := e; exact hr.perm.lt i hi
    · rw [up2_ne _ _ e] at h; exact hT.lt i k hi h
  · by_cases e : i = l ∧ k = r l
    · obtain ⟨rfl, rfl⟩ := e; rw [up2_same]; exact hr
    · rw [up2_ne _ _ e] at h ⊢; exact hT.np i k hi h
  · by_cases e : i = l ∧ k = r l
    · obtain ⟨rfl, rfl⟩ := e; rw [up2_same]; exact hf
    · rw [up2_ne _ _ e] at h ⊢; exact hT.fix i k hi h
  · by_cases e : i = l ∧ k = r l
    · obtain ⟨rfl, rfl⟩ := e; rw [up2_same]
    · rw [up2_ne _ _ e] at h ⊢; exact hT.at_ i k hi h

end Go.Proofs.Ytakapfgjdhliaaa
