import Derived.Test.YtaafldclbdlgfaaL2
/- Cycles: the same walk on both sides, on plain numbers. -/
namespace Go.Proofs.Ytaafldclbdlgfaa
open Go.RowKit DM

/-- A row of numbers. -/
def numsF (l : List Nat) (j : Nat) : Dat := .i .i64 ((l.getD j 0 : Nat) : Int)
theorem getD_snoc_lt {α : Type} (l : List α) (y d : α) {j : Nat} (h : j < l.length) : (l ++ [y]).getD j d = l.getD j d := by
  simp only [List.getD_eq_getElem?_getD]; rw [List.getElem?_append_left h]
theorem getD_snoc {α : Type} (l : List α) (y d : α) : (l ++ [y]).getD l.length d = y := by
  simp [List.getD_eq_getElem?_getD]

theorem blt_true {a b : Nat} (h : a < b) : Nat.blt a b = true := by rw [Nat.blt_eq]; exact h
theorem blt_false {a b : Nat} (h : ¬ a < b) : Nat.blt a b = false := by cases e : Nat.blt a b with | false => rfl | true => rw [Nat.blt_eq] at e; exact absurd e h

theorem ap_nums (l : List Nat) (y : Nat) (z : Dat) (j : Nat) (hj : j < l.length + 1) : numsF (l ++ [y]) j = apF l.length (numsF l) 0 (fup (fun _ => z) 0 (.i .i64 ((y : Nat) : Int))) j := by
  unfold apF numsF
  by_cases h : j < l.length
  · rw [blt_true h, getD_snoc_lt l y 0 h]; rfl
  · have e : j = l.length := by omega
    subst e
    rw [blt_false (Nat.lt_irrefl _), getD_snoc]
    simp [fup]

/-- The rest of a cycle. -/
def cyRun (p : Nat → Nat) : Nat → Nat → List Nat → (Nat → Bool) → List Nat × (Nat → Bool)
  | 0, _, l, met => (l, met)
  | f + 1, k, l, met => bif met k then (l, met) else cyRun p f (p k) (l ++ [k]) (up met k true)

def cyc (p : Nat → Nat) (k : Nat) (l : List Nat) (met : Nat → Bool) : List Nat × (Nat → Bool) := cyRun p (cntU 16 met) k l met

theorem cyc_old {p : Nat → Nat} {k : Nat} {l : List Nat} {met : Nat → Bool} (h : met k = true) : cyc p k l met = (l, met) := by
  unfold cyc
  cases cntU 16 met with
  | zero => rfl
  | succ n => simp only [cyRun, h, cond_true]

theorem cyc_new {p : Nat → Nat} {k : Nat} {l : List Nat} {met : Nat → Bool} (hk : k < 16) (h : met k = false) : cyc p k l met = cyc p (p k) (l ++ [k]) (up met k true) := by
  unfold cyc
  rw [cntU_up hk h]
  simp only [cyRun, h, cond_false]

theorem cyRun_mono (p : Nat → Nat) : ∀ (f k : Nat) (l : List Nat) (met : Nat → Bool), l.length ≤ (cyRun p f k l met).1.length
  | 0, k, l, met => Nat.le_refl _
  | f + 1, k, l, met => by
    simp only [cyRun]
    cases met k
    · have := cyRun_mono p f (p k) (l ++ [k]) (up met k true)
      simp only [List.length_append, List.length_singleton] at this
      simp only [cond_false]; omega
    · simp

theorem cyc_pos {p : Nat → Nat} {k : Nat} {met : Nat → Bool} (hk : k < 16) (h : met k = false) : 1 ≤ (cyc p k [] met).1.length := by
  rw [cyc_new hk h]
  have := cyRun_mono p (cntU 16 (up met k true)) (p k) ([] ++ [k]) (up met k true)
  exact this

/-- What is known while a cycle is walked. -/
structure CInv (n : Nat) (k : Nat) (l : List Nat) (met : Nat → Bool) : Prop where
  small : ∀ x ∈ l, x < n
  here : k < n
  len : l.length + cntU 16 met ≤ 16

theorem CInv.step {n : Nat} (hn : n ≤ 16) {p : Nat → Nat} (hp : ∀ i, i < n → p i < n) {k : Nat} {l : List Nat} {met : Nat → Bool} (h : CInv n k l met) (hm : met k = false) : CInv n (p k) (l ++ [k]) (up met k true) := by
  have hc := cntU_up (met := met) (y := k) (by have := h.here; omega) hm
  refine ⟨fun x hx => ?_, hp _ h.here, ?_⟩
  · simp only [List.mem_append, List.mem_singleton] at hx
    rcases hx with hx | rfl
    · exact h.small x hx
    · exact h.here
  · have := h.len
    simp only [List.length_append, List.length_singleton]; omega

theorem ren_t2 {τ : Nat → Nat} {a b a' b' : Dat} (h1 : renD τ a a') (h2 : renD τ b b') : renD τ (t2 a b) (t2 a' b') :=
  ⟨_, rfl, fun i _ => by cases i with | zero => exact h1 | succ i => exact h2⟩

end Go.Proofs.Ytaafldclbdlgfaa
