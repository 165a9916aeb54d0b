import Derived.Test.YtaafldclbdlgfaaL0
/- Permutations as functions: what the programs' loops come to. -/
namespace Go.Proofs.Ytaafldclbdlgfaa
open Go.RowKit DM

def sameF (n : Nat) : Nat → Nat := fun i => if i < n then i else 0
/-- The permutation that leads back, as it is filled place by place. -/
def backTo (p : Nat → Nat) : Nat → Nat → Nat
  | 0 => fun _ => 0
  | k + 1 => up (backTo p k) (p k) k

/-- A function filled up to k. -/
def fillF (f : Nat → Nat) (k : Nat) : Nat → Nat := fun i => if i < k then f i else 0
theorem fill_step (f : Nat → Nat) (k : Nat) : up (fillF f k) k (f k) = fillF f (k + 1) := by
  funext i; unfold up fillF
  by_cases h : i = k
  · subst h; simp
  · simp only [if_neg h]; by_cases h2 : i < k
    · simp [h2, show i < k + 1 by omega]
    · simp [h2, show ¬ i < k + 1 by omega]
theorem fill_zero (f : Nat → Nat) : fillF f 0 = fun _ => 0 := by funext i; simp [fillF]

/-- A permutation of n numbers in sixteen places. -/
structure Perm (n : Nat) (p : Nat → Nat) : Prop where
  lt : ∀ i, i < n → p i < n
  inj : ∀ i j, i < n → j < n → p i = p j → i = j

theorem perm_of_B {p : Nat → Nat} {n : Int} (h : permB p n = true) : ∃ N : Nat, n = N ∧ 1 ≤ N ∧ N ≤ 16 ∧ Perm N p := by
  have h1 := @of_decide_eq_true _ (Classical.propDecidable _) h
  refine ⟨n.toNat, by omega, by omega, by omega, fun i hi => ((h1.2 i (by omega)).1 hi).1, fun i j hi hj e => ?_⟩
  rcases Nat.lt_trichotomy i j with h2 | h2 | h2
  · exact absurd e (((h1.2 j (by omega)).1 hj).2 i h2)
  · exact h2
  · exact absurd e.symm (((h1.2 i (by omega)).1 hi).2 j h2)

theorem perm_same (n : Nat) : Perm n (sameF n) := ⟨fun i hi => by simp [sameF, hi], fun i j hi hj e => by simpa [sameF, hi, hj] using e⟩

end Go.Proofs.Ytaafldclbdlgfaa

/- Queues: numbers that are reached by two permutations. -/
namespace Go.Proofs.Ytaafldclbdlgfaa
open Go.RowKit DM

/-- A row of bytes. -/
def bytesF (Q : List Nat) (j : Nat) : Dat := .i .u8 ((Q.getD j 0 : Nat) : Int)

theorem ap_bytes (Q : List Nat) (y : Nat) (z : Dat) (j : Nat) (hj : j < Q.length + 1) : bytesF (Q ++ [y]) j = apF Q.length (bytesF Q) 0 (fup (fun _ => z) 0 (.i .u8 ((y : Nat) : Int))) j := by
  unfold apF bytesF
  by_cases h : j < Q.length
  · rw [show Nat.blt j Q.length = true from by rw [Nat.blt_eq]; exact h]
    simp [List.getD_eq_getElem?_getD, List.getElem?_append_left h]
  · have e : j = Q.length := by omega
    subst e
    rw [show Nat.blt Q.length Q.length = false from by cases hh : Nat.blt Q.length Q.length with | false => rfl | true => rw [Nat.blt_eq] at hh; omega]
    simp [List.getD_eq_getElem?_getD, fup]

/-- One number more, if it is new. -/
def bst (y : Nat) (s : List Nat × (Nat → Bool)) : List Nat × (Nat → Bool) := bif s.2 y then s else (s.1 ++ [y], up s.2 y true)

theorem bst_new {y : Nat} {Q : List Nat} {met : Nat → Bool} (h : met y = false) : bst y (Q, met) = (Q ++ [y], up met y true) := by
  show (bif met y then _ else _) = _
  rw [h]; rfl
theorem bst_old {y : Nat} {Q : List Nat} {met : Nat → Bool} (h : met y = true) : bst y (Q, met) = (Q, met) := by
  show (bif met y then _ else _) = _
  rw [h]; rfl

/-- What the queue is after all that it leads to. -/
def brun (p q : Nat → Nat) : Nat → Nat → List Nat × (Nat → Bool) → List Nat × (Nat → Bool)
  | 0, _, s => s
  | k + 1, i, s => if i < s.1.length then brun p q k (i + 1) (bst (q (s.1.getD i 0)) (bst (p (s.1.getD i 0)) s)) else s

/-- How many rounds are left at most. -/
def bmu (i : Nat) (s : List Nat × (Nat → Bool)) : Nat := 2 * cntU 16 s.2 + s.1.length - i

structure BInv (n : Nat) (s : List Nat × (Nat → Bool)) : Prop where
  small : ∀ x ∈ s.1, x < n
  len : s.1.length + cntU 16 s.2 ≤ 16

theorem BInv.get {n : Nat} {s : List Nat × (Nat → Bool)} (h : BInv n s) {i : Nat} (hi : i < s.1.length) : s.1.getD i 0 < n := by
  rw [List.getD_eq_getElem?_getD, List.getElem?_eq_getElem hi]
  exact h.small _ (List.getElem_mem hi)

theorem cntU_up {met : Nat → Bool} {y : Nat} (hy : y < 16) (h : met y = false) : cntU 16 met = cntU 16 (up met y true) + 1 :=
  (cntU_set (i := y) (f := met) (g := up met y true) h (up_same _ _ _) (fun _ hj => up_ne _ _ hj) (n := 16)).1 hy

theorem BInv.bst {n : Nat} (hn : n ≤ 16) {s : List Nat × (Nat → Bool)} (h : BInv n s) {y : Nat} (hy : y < n) : BInv n (bst y s) := by
  unfold Go.Proofs.Ytaafldclbdlgfaa.bst
  cases hm : s.2 y with
  | true => exact h
  | false =>
    have hc := cntU_up (met := s.2) (y := y) (by omega) hm
    refine ⟨fun x hx => ?_, ?_⟩
    · simp only [cond_false, List.mem_append, List.mem_singleton] at hx
      rcases hx with hx | rfl
      · exact h.small x hx
      · exact hy
    · have := h.len
      simp only [cond_false, List.length_append, List.length_singleton]
      omega

theorem bmu_bst {n : Nat} (hn : n ≤ 16) {s : List Nat × (Nat → Bool)} {y : Nat} (hy : y < n) (i : Nat) (hi : i ≤ s.1.length) : bmu i (bst y s) ≤ bmu i s ∧ s.1.length ≤ (bst y s).1.length := by
  unfold bst bmu
  cases hm : s.2 y with
  | true => exact ⟨Nat.le_refl _, Nat.le_refl _⟩
  | false =>
    have hc := cntU_up (met := s.2) (y := y) (by omega) hm
    simp only [cond_false, List.length_append, List.length_singleton]
    constructor <;> omega

theorem bmu_round {n : Nat} (hn : n ≤ 16) {p q : Nat → Nat} (hp : ∀ i, i < n → p i < n) (hq : ∀ i, i < n → q i < n) {s : List Nat × (Nat → Bool)} (h : BInv n s) {i : Nat} (hi : i < s.1.length) :
    BInv n (bst (q (s.1.getD i 0)) (bst (p (s.1.getD i 0)) s)) ∧ bmu (i + 1) (bst (q (s.1.getD i 0)) (bst (p (s.1.getD i 0)) s)) < bmu i s := by
  have hx := h.get hi
  have h1 := h.bst hn (hp _ hx)
  have h2 := h1.bst hn (hq _ hx)
  obtain ⟨g1, g2⟩ := bmu_bst hn (s := s) (hp _ hx) i (by omega)
  obtain ⟨g3, g4⟩ := bmu_bst hn (s := bst (p (s.1.getD i 0)) s) (hq _ hx) i (by omega)
  refine ⟨h2, ?_⟩
  have : bmu (i + 1) (bst (q (s.1.getD i 0)) (bst (p (s.1.getD i 0)) s)) + 1 = bmu i (bst (q (s.1.getD i 0)) (bst (p (s.1.getD i 0)) s)) := by
    unfold bmu; omega
  omega

/-- More rounds tell the same. -/
theorem brun_more {n : Nat} (hn : n ≤ 16) {p q : Nat → Nat} (hp : ∀ i, i < n → p i < n) (hq : ∀ i, i < n → q i < n) : ∀ (k k' i : Nat) (s : List Nat × (Nat → Bool)), BInv n s → bmu i s ≤ k → bmu i s ≤ k' → brun p q k i s = brun p q k' i s
  | 0, 0, i, s, _, _, _ => rfl
  | 0, k' + 1, i, s, h, hk, _ => by
    simp only [brun]
    rw [if_neg (by unfold bmu at hk; omega)]
  | k + 1, 0, i, s, h, _, hk => by
    simp only [brun]
    rw [if_neg (by unfold bmu at hk; omega)]
  | k + 1, k' + 1, i, s, h, hk, hk' => by
    simp only [brun]
    split
    · rename_i hi
      obtain ⟨g1, g2⟩ := bmu_round hn hp hq h hi
      exact brun_more hn hp hq k k' (i + 1) _ g1 (by omega) (by omega)
    · rfl

def bres (p q : Nat → Nat) (i : Nat) (s : List Nat × (Nat → Bool)) : List Nat × (Nat → Bool) := brun p q (bmu i s) i s

theorem bres_step {n : Nat} (hn : n ≤ 16) {p q : Nat → Nat} (hp : ∀ i, i < n → p i < n) (hq : ∀ i, i < n → q i < n) {i : Nat} {s : List Nat × (Nat → Bool)} (h : BInv n s) (hi : i < s.1.length) :
    bres p q (i + 1) (bst (q (s.1.getD i 0)) (bst (p (s.1.getD i 0)) s)) = bres p q i s := by
  obtain ⟨g1, g2⟩ := bmu_round hn hp hq h hi
  unfold bres
  rw [show bmu i s = (bmu i s - 1) + 1 by omega]
  simp only [brun, if_pos hi]
  exact brun_more hn hp hq _ _ _ _ g1 (Nat.le_refl _) (by omega)

theorem bres_end {p q : Nat → Nat} {i : Nat} {s : List Nat × (Nat → Bool)} (hi : ¬ i < s.1.length) : bres p q i s = s := by
  unfold bres
  cases bmu i s with
  | zero => rfl
  | succ k => simp only [brun, if_neg hi]

/-- The beginning: 0 alone. -/
def b0 : List Nat × (Nat → Bool) := ([0], up (fun _ => false) 0 true)
theorem b0_inv {n : Nat} (h1 : 1 ≤ n) : BInv n b0 := ⟨fun x hx => by simp [b0] at hx; omega, by show 1 + cntU 16 _ ≤ 16; decide⟩

/-- All numbers that are reached from 0. -/
def bfs (p q : Nat → Nat) : List Nat := (bres p q 0 b0).1

end Go.Proofs.Ytaafldclbdlgfaa

/- Cycles: the same walk on both sides, on plain numbers. -/
namespace Go.Proofs.Ytaafldclbdlgfaa
open Go.RowKit DM

/-- A row of numbers. -/
def numsF (l : List Nat) (j : Nat) : Dat := .i .i64 ((l.getD j 0 : Nat) : Int)
/-- .. inside another row. -/
def owN (l : List Nat) : Dat := .ow 2 l.length 1 (numsF l)
def rowsF (L : List (List Nat)) (i : Nat) : Dat := owN (L.getD i [])

theorem getD_snoc_lt {α : Type} (l : List α) (y d : α) {j : Nat} (h : j < l.length) : (l ++ [y]).getD j d = l.getD j d := by
  simp only [List.getD_eq_getElem?_getD]; rw [List.getElem?_append_left h]
theorem getD_snoc {α : Type} (l : List α) (y d : α) : (l ++ [y]).getD l.length d = y := by
  simp [List.getD_eq_getElem?_getD]

theorem blt_true {a b : Nat} (h : a < b) : Nat.blt a b = true := by rw [Nat.blt_eq]; exact h
theorem blt_false {a b : Nat} (h : ¬ a < b) : Nat.blt a b = false := by cases e : Nat.blt a b with | false => rfl | true => rw [Nat.blt_eq] at e; exact absurd e h

theorem ap_nums (l : List Nat) (y : Nat) (z : Dat) (j : Nat) (hj : j < l.length + 1) : numsF (l ++ [y]) j = apF l.length (numsF l) 0 (fup (fun _ => z) 0 (.i .i64 ((y : Nat) : Int))) j := by
  unfold apF numsF
  by_cases h : j < l.length
  · rw [blt_true h, getD_snoc_lt l y 0 h]; rfl
  · have e : j = l.length := by omega
    subst e
    rw [blt_false (Nat.lt_irrefl _), getD_snoc]
    simp [fup]

theorem ap_rows (L : List (List Nat)) (l : List Nat) (g : Nat → Dat) (j : Nat) (hj : j < L.length + 1) : rowsF (L ++ [l]) j = fup (apF L.length (rowsF L) 0 g) L.length (owN l) j := by
  unfold apF rowsF
  by_cases h : j < L.length
  · rw [fup_ne _ _ (by omega), blt_true h, getD_snoc_lt L l [] h]; rfl
  · have e : j = L.length := by omega
    subst e
    rw [fup_same, getD_snoc]

/-- The rest of a cycle. -/
def cyRun (p : Nat → Nat) : Nat → Nat → List Nat → (Nat → Bool) → List Nat × (Nat → Bool)
  | 0, _, l, met => (l, met)
  | f + 1, k, l, met => bif met k then (l, met) else cyRun p f (p k) (l ++ [k]) (up met k true)

def cyc (p : Nat → Nat) (k : Nat) (l : List Nat) (met : Nat → Bool) : List Nat × (Nat → Bool) := cyRun p (cntU 16 met) k l met

theorem cyc_old {p : Nat → Nat} {k : Nat} {l : List Nat} {met : Nat → Bool} (h : met k = true) : cyc p k l met = (l, met) := by
  unfold cyc
  cases cntU 16 met with
  | zero => rfl
  | succ n => simp only [cyRun, h, cond_true]

theorem cyc_new {p : Nat → Nat} {k : Nat} {l : List Nat} {met : Nat → Bool} (hk : k < 16) (h : met k = false) : cyc p k l met = cyc p (p k) (l ++ [k]) (up met k true) := by
  unfold cyc
  rw [cntU_up hk h]
  simp only [cyRun, h, cond_false]

theorem cyRun_mono (p : Nat → Nat) : ∀ (f k : Nat) (l : List Nat) (met : Nat → Bool), l.length ≤ (cyRun p f k l met).1.length
  | 0, k, l, met => Nat.le_refl _
  | f + 1, k, l, met => by
    simp only [cyRun]
    cases met k
    · have := cyRun_mono p f (p k) (l ++ [k]) (up met k true)
      simp only [List.length_append, List.length_singleton] at this
      simp only [cond_false]; omega
    · simp

theorem cyc_pos {p : Nat → Nat} {k : Nat} {met : Nat → Bool} (hk : k < 16) (h : met k = false) : 1 ≤ (cyc p k [] met).1.length := by
  rw [cyc_new hk h]
  have := cyRun_mono p (cntU 16 (up met k true)) (p k) ([] ++ [k]) (up met k true)
  exact this

/-- What is known while a cycle is walked. -/
structure CInv (n : Nat) (k : Nat) (l : List Nat) (met : Nat → Bool) : Prop where
  small : ∀ x ∈ l, x < n
  here : k < n
  len : l.length + cntU 16 met ≤ 16

theorem CInv.step {n : Nat} (hn : n ≤ 16) {p : Nat → Nat} (hp : ∀ i, i < n → p i < n) {k : Nat} {l : List Nat} {met : Nat → Bool} (h : CInv n k l met) (hm : met k = false) : CInv n (p k) (l ++ [k]) (up met k true) := by
  have hc := cntU_up (met := met) (y := k) (by have := h.here; omega) hm
  refine ⟨fun x hx => ?_, hp _ h.here, ?_⟩
  · simp only [List.mem_append, List.mem_singleton] at hx
    rcases hx with hx | rfl
    · exact h.small x hx
    · exact h.here
  · have := h.len
    simp only [List.length_append, List.length_singleton]; omega

theorem cntU_le : ∀ (n : Nat) (f : Nat → Bool), cntU n f ≤ n
  | 0, _ => Nat.le_refl _
  | n + 1, f => by
    have := cntU_le n f
    simp only [cntU]
    cases f n <;> simp <;> omega

/-- All cycles of the numbers below i. -/
def cyTo (p : Nat → Nat) : Nat → List (List Nat) × (Nat → Bool)
  | 0 => ([], fun _ => false)
  | i + 1 => bif (cyTo p i).2 i then cyTo p i else ((cyTo p i).1 ++ [(cyc p i [] (cyTo p i).2).1], (cyc p i [] (cyTo p i).2).2)

def cycs (p : Nat → Nat) (n : Nat) : List (List Nat) := (cyTo p n).1

theorem cyTo_len (p : Nat → Nat) : ∀ i, (cyTo p i).1.length ≤ i
  | 0 => Nat.le_refl _
  | i + 1 => by
    have := cyTo_len p i
    simp only [cyTo]
    cases (cyTo p i).2 i
    · simp only [cond_false, List.length_append, List.length_singleton]; omega
    · simp only [cond_true]; omega

theorem cyTo_old {p : Nat → Nat} {i : Nat} (h : (cyTo p i).2 i = true) : cyTo p (i + 1) = cyTo p i := by
  show (bif (cyTo p i).2 i then _ else _) = _
  rw [h]; rfl
theorem cyTo_new {p : Nat → Nat} {i : Nat} (h : (cyTo p i).2 i = false) : cyTo p (i + 1) = ((cyTo p i).1 ++ [(cyc p i [] (cyTo p i).2).1], (cyc p i [] (cyTo p i).2).2) := by
  show (bif (cyTo p i).2 i then _ else _) = _
  rw [h]; rfl

theorem cyRun_ok {n : Nat} (hn : n ≤ 16) {p : Nat → Nat} (hp : ∀ i, i < n → p i < n) : ∀ (f k : Nat) (l : List Nat) (met : Nat → Bool), CInv n k l met → (∀ x ∈ (cyRun p f k l met).1, x < n) ∧ (cyRun p f k l met).1.length + cntU 16 (cyRun p f k l met).2 ≤ 16
  | 0, k, l, met, h => ⟨h.small, h.len⟩
  | f + 1, k, l, met, h => by
    simp only [cyRun]
    cases hm : met k
    · simp only [cond_false]; exact cyRun_ok hn hp f _ _ _ (h.step hn hp hm)
    · simp only [cond_true]; exact ⟨h.small, h.len⟩

theorem cyTo_ok {n : Nat} (hn : n ≤ 16) {p : Nat → Nat} (hp : ∀ i, i < n → p i < n) : ∀ i, i ≤ n → ∀ l ∈ (cyTo p i).1, (∀ x ∈ l, x < n) ∧ l.length ≤ 16
  | 0, _, l, hl => by simp [cyTo] at hl
  | i + 1, hi, l, hl => by
    cases hm : (cyTo p i).2 i
    · rw [cyTo_new hm] at hl
      simp only [List.mem_append, List.mem_singleton] at hl
      rcases hl with hl | rfl
      · exact cyTo_ok hn hp i (by omega) l hl
      · have := cyRun_ok hn hp (cntU 16 (cyTo p i).2) i [] (cyTo p i).2 ⟨by simp, by omega, by have := cntU_le 16 (cyTo p i).2; simpa using this⟩
        exact ⟨this.1, by have := this.2; unfold cyc; omega⟩
    · rw [cyTo_old hm] at hl
      exact cyTo_ok hn hp i (by omega) l hl

theorem cycs_ok {n : Nat} (hn : n ≤ 16) {p : Nat → Nat} (hp : ∀ i, i < n → p i < n) {j : Nat} : ((cycs p n).getD j []).length ≤ 16 ∧ ∀ x ∈ (cycs p n).getD j [], x < n := by
  by_cases h : j < (cycs p n).length
  · have := cyTo_ok hn hp n (Nat.le_refl _) ((cycs p n).getD j []) (by rw [List.getD_eq_getElem?_getD, List.getElem?_eq_getElem h]; exact List.getElem_mem h)
    exact ⟨this.2, this.1⟩
  · rw [List.getD_eq_getElem?_getD, List.getElem?_eq_none (by omega)]; simp

theorem ren_t2 {τ : Nat → Nat} {a b a' b' : Dat} (h1 : renD τ a a') (h2 : renD τ b b') : renD τ (t2 a b) (t2 a' b') :=
  ⟨_, rfl, fun i _ => by cases i with | zero => exact h1 | succ i => exact h2⟩

end Go.Proofs.Ytaafldclbdlgfaa
