import Derived.Test.YtokhjhkicledmaaX9
import Derived.Test.YtokhjhkicledmaaD22
import Derived.Test.YtokhjhkicledmaaL33
/- Quotients by blocks: darts among some, sets among some (32 bits). -/
namespace Go.Proofs.Ytokhjhkicledmaa
open Go.RowKit DM
set_option linter.unusedSimpArgs false
set_option linter.unusedVariables false
set_option maxRecDepth 100000
set_option maxHeartbeats 1000000

def inI (n : Int) (x : Int) : Bool := decide (0 ≤ x) && decide (x < n)
def allI (n : Int) (g : Nat → Int) : Nat → Bool
  | 0 => true
  | k + 1 => allI n g k && inI n (g k)
theorem allI_iff {n : Int} {g : Nat → Int} : ∀ {m : Nat}, allI n g m = true ↔ ∀ k, k < m → inI n (g k) = true
  | 0 => ⟨fun _ k h => absurd h (Nat.not_lt_zero _), fun _ => rfl⟩
  | m + 1 => by
    rw [allI, Bool.and_eq_true, allI_iff (m := m)]
    constructor
    · rintro ⟨h1, h2⟩ k hk
      by_cases e : k = m
      · subst e; exact h2
      · exact h1 k (by omega)
    · exact fun h => ⟨fun k hk => h k (by omega), h m (by omega)⟩
theorem allI_no {n : Int} {g : Nat → Int} {m k : Nat} (hk : k < m) (h : inI n (g k) = false) : allI n g m = false := by
  cases e : allI n g m with
  | false => rfl
  | true => rw [allI_iff.1 e k hk] at h; cases h

theorem isDartI_fn (n : Int) (b w : Nat → Nat) (m : Nat) (g : Nat → Int) (hl : m ≤ 4294967296) : FnR Try.prog 50 [ds_ n b w, .sl 0 0 m 1] [.ro m 1 (fun i => .i .i64 (g i))] (.b (allI n g m)) := by
  refine FnS.into T tok Try.func50 (by rfl) rfl rfl rfl (by simp) ?_
  refine WP.rs T false tok (by rfl) (by exact byObl) ?_
  refine WP.seq ?_
  refine WP.rs T false tok (by rfl) (by exact byObl) ?_
  refine WP.block ?_
  refine WP.loopH (⟨fun k : Nat => k ≤ m ∧ ∀ j, j < k → inI n (g j) = true, fun k => [(2, .p 1 [] 0), (7, .sl 0 0 m 1), (8, .i .i64 (m : Int)), (9, .i .i64 (k : Int))], fun k => [.ro m 1 (fun i => .i .i64 (g i)), .var (ds_ n b w)], fun k => m - k⟩) (0) (⟨Nat.zero_le _, fun j hj => absurd hj (Nat.not_lt_zero _)⟩) (Ghost.cut (Nat.le_refl _) (tauOf [0, 1]) _ _ (Taken.of [0, 1] (LeAll.cons (by rfl) (by first | with_reducible exact Root.Le.refl _ | with_reducible exact le_dead | (skip; done) | exact byLeq) (by exact byCon) (LeAll.cons (by rfl) (by first | with_reducible exact Root.Le.refl _ | with_reducible exact le_dead | (skip; done) | exact byLeq) (by exact byCon) (trivial))) rfl rfl) (by exact bySlots)) ?_
  rintro k ⟨hk, hall⟩
  dsimp only [Hd.at]
  refine WP.rs T false tok (by rfl) (by exact byObl) ?_
  refine WP.seq ?_
  refine WP.cond (by rfl) (fun hc => WP.skip ?_) (fun hc => WP.exit ?_)
  · have hk : k < m := by have := of_decide_eq_true hc; omega
    clear hc
    refine WP.seq (WP.block ?_)
    refine WP.rs T false tok (by rfl) (by exact byObl) ?_
    refine WP.seq ?_
    refine WP.region ?_
    refine WPL.run T false 2 tok (by rfl) (by exact byObl) ?_
    have hno := allI_no (n := n) (g := g) hk
    have hyes : inI n (g k) = true → ∀ j, j < k + 1 → inI n (g j) = true := fun h j hj => by
      by_cases e : j = k
      · subst e; exact h
      · exact hall j (by omega)
    have hx : g (addrAt 0 ((k : Nat) : Int).toNat) = g k := by rw [show addrAt 0 ((k : Nat) : Int).toNat = k by simp [addrAt0]]
    rw [hx]
    generalize g k = x at hno hyes hx ⊢
    cases h1 : decide (x < 0)
    · have h1' : 0 ≤ x := by have := of_decide_eq_false h1; omega
      refine WPL.fin T false tok (by rfl) (by exact byObl) ?_
      refine WP.cond (by rfl) (fun h => ?_) (fun h => WP.skip ?_)
      · have h := of_decide_eq_true h
        rw [hno (by simp [inI]; omega)]
        refine WP.rs T false tok (by rfl) (by exact byObl) ?_
        exact WP.ret (Ends.val (by rfl) (by exact byObl) (by rfl) (by trivial))
      · have h := of_decide_eq_false h
        refine WP.run T false tok (by rfl) (by exact byObl) ?_
        refine Again.next (k + 1) (Ghost.cut (Nat.le_refl _) (tauOf [0, 1]) _ _ (Taken.of [0, 1] (LeAll.cons (by rfl) (by first | with_reducible exact Root.Le.refl _ | with_reducible exact le_dead | (skip; done) | exact byLeq) (by exact byCon) (LeAll.cons (by rfl) (by first | with_reducible exact Root.Le.refl _ | with_reducible exact le_dead | (skip; done) | exact byLeq) (by exact byCon) (trivial))) rfl rfl) (by exact bySlots)) (⟨hk, hyes (by simp [inI]; omega)⟩) (by dsimp only; omega)
    · have h1' : x < 0 := of_decide_eq_true h1
      refine WPL.fin T false tok (by rfl) (by exact byObl) ?_
      refine WP.cond (by rfl) (fun h => ?_) (fun h => WP.skip ?_)
      · rw [hno (by simp [inI]; omega)]
        refine WP.rs T false tok (by rfl) (by exact byObl) ?_
        exact WP.ret (Ends.val (by rfl) (by exact byObl) (by rfl) (by trivial))
      · cases h
  · have hk : k = m := by have := of_decide_eq_false hc; omega
    subst hk
    rw [allI_iff.2 hall]
    refine WP.rs T false tok (by rfl) (by exact byObl) ?_
    exact WP.ret (Ends.val (by rfl) (by exact byObl) (by rfl) (by trivial))

/-! ### Sets in 32 bits -/
def setD (l : List Nat) (j : Nat) : Dat := .i .u32 ((l.getD j 0 : Nat) : Int)
theorem ap_sets (l : List Nat) (y : Nat) (z : Dat) (j : Nat) (hj : j < l.length + 1) : setD (l ++ [y]) j = apF l.length (setD l) 0 (fup (fun _ => z) 0 (.i .u32 ((y : Nat) : Int))) j := by
  unfold setD apF
  by_cases h : j < l.length
  · rw [getD_snoc_lt l y 0 h, blt_true h]; rfl
  · obtain rfl : j = l.length := by omega
    rw [getD_snoc, blt_false h]
    simp [fup]

def idxF (l : List Nat) (y : Nat) : Nat → Int
  | 0 => -1
  | k + 1 => if idxF l y k < 0 then (if l.getD k 0 = y then (k : Int) else -1) else idxF l y k
theorem idx_neg {l : List Nat} {y : Nat} : ∀ k, idxF l y k < 0 ↔ ∀ j, j < k → l.getD j 0 ≠ y
  | 0 => ⟨fun _ j h => absurd h (Nat.not_lt_zero _), fun _ => by simp [idxF]⟩
  | k + 1 => by
    have ih := idx_neg (l := l) (y := y) k
    simp only [idxF]
    by_cases h : idxF l y k < 0
    · rw [if_pos h]
      have h' := ih.1 h
      by_cases e : l.getD k 0 = y
      · rw [if_pos e]
        exact ⟨fun h => by omega, fun h => absurd e (h k (by omega))⟩
      · rw [if_neg e]
        refine ⟨fun _ j hj => ?_, fun _ => by omega⟩
        by_cases e2 : j = k
        · subst e2; exact e
        · exact h' j (by omega)
    · rw [if_neg h]
      exact ⟨fun h2 => absurd h2 h, fun h2 => absurd (ih.2 fun j hj => h2 j (by omega)) h⟩

theorem idx_no {l : List Nat} {y : Nat} : ∀ {k : Nat}, (∀ j, j < k → l.getD j 0 ≠ y) → idxF l y k = -1
  | 0, _ => rfl
  | k + 1, h => by
    simp only [idxF]
    rw [idx_no (k := k) fun j hj => h j (by omega), if_pos (by decide), if_neg (h k (by omega))]
theorem idx_at {l : List Nat} {y k n : Nat} (hk : k < n) (h : ∀ j, j < k → l.getD j 0 ≠ y) (hy : l.getD k 0 = y) : idxF l y n = k := by
  induction n with
  | zero => exact absurd hk (Nat.not_lt_zero _)
  | succ n ih =>
    simp only [idxF]
    by_cases e : k = n
    · subst e; rw [idx_no h, if_pos (by decide), if_pos hy]
    · have := ih (by omega)
      rw [this, if_neg (by omega)]
theorem idx_mem (l : List Nat) (y : Nat) : decide (idxF l y l.length ≥ 0) = decide (y ∈ l) := by
  have h := idx_neg (l := l) (y := y) l.length
  by_cases hm : y ∈ l
  · rw [decide_eq_true hm]
    refine decide_eq_true ?_
    obtain ⟨j, hj, e⟩ := List.getElem_of_mem hm
    refine Int.not_lt.1 fun h2 => h.1 h2 j hj ?_
    rw [List.getD_eq_getElem?_getD, List.getElem?_eq_getElem hj]
    exact e
  · rw [decide_eq_false hm]
    refine decide_eq_false fun h2 => ?_
    have h3 : idxF l y l.length < 0 := h.2 fun j hj e => hm (by
      rw [← e, List.getD_eq_getElem?_getD, List.getElem?_eq_getElem hj]
      exact List.getElem_mem hj)
    omega

theorem indexU_fn (l : List Nat) (y : Nat) (hl : l.length ≤ 4294967296) (hy : y < 65536) : FnR Try.prog 79 [.sl 0 0 l.length 1, .i .u32 (y : Int)] [.ro l.length 1 (setD l)] (.i .i64 (idxF l y l.length)) := by
  refine FnS.into T tok Try.func79 (by rfl) rfl rfl rfl (by simp) ?_
  refine WP.rs T false tok (by rfl) (by exact byObl) ?_
  refine WP.seq ?_
  refine WP.rs T false tok (by rfl) (by exact byObl) ?_
  refine WP.block ?_
  refine WP.loopH (⟨fun k : Nat => k ≤ l.length ∧ ∀ j, j < k → l.getD j 0 ≠ y, fun k => [(0, .sl 0 0 l.length 1), (1, .i .u32 (y : Int)), (7, .i .i64 (l.length : Int)), (8, .i .i64 (k : Int))], fun k => [.ro l.length 1 (setD l)], fun k => l.length - k⟩) (0) (⟨Nat.zero_le _, fun j hj => absurd hj (Nat.not_lt_zero _)⟩) (Ghost.cut (Nat.le_refl _) (tauOf [0]) _ _ (Taken.of [0] (LeAll.cons (by rfl) (by first | with_reducible exact Root.Le.refl _ | with_reducible exact le_dead | (skip; done) | exact byLeq) (by exact byCon) (trivial)) rfl rfl) (by exact bySlots)) ?_
  rintro k ⟨hk, hall⟩
  dsimp only [Hd.at]
  refine WP.rs T false tok (by rfl) (by exact byObl) ?_
  refine WP.seq ?_
  refine WP.cond (by rfl) (fun hc => WP.skip ?_) (fun hc => WP.exit ?_)
  · have hk : k < l.length := by have := of_decide_eq_true hc; omega
    clear hc
    refine WP.seq (WP.block ?_)
    refine WP.rs T false tok (by rfl) (by exact byObl) ?_
    refine WP.seq ?_
    refine WP.run T false tok (by rfl) (by exact byObl) ?_
    have ek : addrAt 0 ((k : Nat) : Int).toNat = k := by simp [addrAt0]
    refine WP.cond (by rfl) (fun h => ?_) (fun h => WP.skip ?_)
    · have h := of_decide_eq_true h
      rw [ek] at h
      have e : idxF l y l.length = k := idx_at hk hall (by omega)
      rw [e]
      refine WP.rs T false tok (by rfl) (by exact byObl) ?_
      exact WP.ret (Ends.val (by rfl) (by exact byObl) (by rfl) (by trivial))
    · have h := of_decide_eq_false h
      rw [ek] at h
      refine WP.run T false tok (by rfl) (by exact byObl) ?_
      refine Again.next (k + 1) (Ghost.cut (Nat.le_refl _) (tauOf [0]) _ _ (Taken.of [0] (LeAll.cons (by rfl) (by first | with_reducible exact Root.Le.refl _ | with_reducible exact le_dead | (skip; done) | exact byLeq) (by exact byCon) (trivial)) rfl rfl) (by exact bySlots)) (⟨hk, fun j hj => by
        by_cases e : j = k
        · subst e; omega
        · exact hall j (by omega)⟩) (by dsimp only; omega)
  · have hk : k = l.length := by have := of_decide_eq_false hc; omega
    subst hk
    have e : idxF l y l.length = -1 := idx_no hall
    rw [e]
    refine WP.rs T false tok (by rfl) (by exact byObl) ?_
    exact WP.ret (Ends.val (by rfl) (by exact byObl) (by rfl) (by trivial))

theorem containsU_fn (l : List Nat) (y : Nat) (hl : l.length ≤ 4294967296) (hy : y < 65536) : FnR Try.prog 51 [.sl 0 0 l.length 1, .i .u32 (y : Int)] [.ro l.length 1 (setD l)] (.b (decide (y ∈ l))) := by
  have hi := indexU_fn l y hl hy
  refine FnS.into T tok Try.func51 (by rfl) rfl rfl rfl (by simp) ?_
  refine WP.rs T false tok (by rfl) (by exact byObl) ?_
  refine WP.rw ?_
  refine WPL.run T false 2 tok (by rfl) (by exact byObl) ?_
  refine WPL.callR [0] (hi) (by rfl) (LeAll.cons (by rfl) (by first | with_reducible exact Root.Le.refl _ | with_reducible exact le_dead | (skip; done) | exact byLeq) (by exact byCon) (trivial)) (by exact byArgs) (by rfl) (by rfl) (by simp [Sc, sc_pl, sc_ds]) ?_
  refine WPL.fin T false tok (by rfl) (by exact byObl) ?_
  rw [idx_mem]
  exact WP.ret (Ends.val (by rfl) (by exact byObl) (by rfl) (by trivial))
end Go.Proofs.Ytokhjhkicledmaa
