/- Incidences: how many numbers two cycles share. -/
import Derived.Test.YtakpeibmaejmeaaL9
import Derived.Test.YtakpeibmaejmeaaL10
namespace Go.Proofs.Ytakpeibmaejmeaa
open Go.RowKit DM
set_option linter.unusedVariables false

/-- How many of the numbers below x lie in part i of the one and part j of the other division. -/
def incT (f g : Nat → Nat) (x i j : Nat) : Nat := ((List.range x).filter fun y => f y == i && g y == j).length

theorem incT_zero (f g : Nat → Nat) (i j : Nat) : incT f g 0 i j = 0 := rfl
theorem incT_step (f g : Nat → Nat) (x i j : Nat) : incT f g (x + 1) i j = if f x = i ∧ g x = j then incT f g x i j + 1 else incT f g x i j := by
  unfold incT
  rw [List.range_succ, List.filter_append]
  by_cases h : f x = i ∧ g x = j
  · rw [if_pos h]; simp [h.1, h.2]
  · rw [if_neg h]
    have : (f x == i && g x == j) = false := by
      cases h1 : (f x == i && g x == j) with
      | false => rfl
      | true => simp at h1; exact absurd h1 h
    simp [this]

theorem incT_le (f g : Nat → Nat) (x i j : Nat) : incT f g x i j ≤ x := by
  unfold incT
  have := List.length_filter_le (fun y => f y == i && g y == j) (List.range x)
  simpa using this

/-- What the loop over a cycle counts. -/
def cntL (l k : List Nat) (t : Nat) : Nat := ((l.take t).filter fun x => decide (x ∈ k)).length

theorem cntL_step {l k : List Nat} {t : Nat} (h : t < l.length) : cntL l k (t + 1) = if l.getD t 0 ∈ k then cntL l k t + 1 else cntL l k t := by
  unfold cntL
  rw [List.take_add_one, List.getElem?_eq_getElem h, List.filter_append, List.getD_eq_getElem?_getD, List.getElem?_eq_getElem h]
  simp only [Option.toList_some, Option.getD_some]
  by_cases c : l[t] ∈ k
  · rw [if_pos c]; simp [c]
  · rw [if_neg c]; simp [c]
theorem cntL_le (l k : List Nat) (t : Nat) : cntL l k t ≤ l.length := by
  unfold cntL
  refine Nat.le_trans (List.length_filter_le _ _) ?_
  rw [List.length_take]; omega

/-- The number of x's cycle, as the loops write it. -/
def whF (p : Nat → Nat) (n : Nat) : Nat → Nat := ptF (cycs p n) (cycs p n).length 0

theorem mem_cls {n : Nat} (hn : n ≤ 16) {p : Nat → Nat} (hp : Perm n p) {x j : Nat} : x ∈ (cycs p n).getD j [] ↔ x < n ∧ whF p n x = j := by
  have h := cyTo_inv hn hp n (Nat.le_refl _)
  constructor
  · intro hx
    have hlt := h.lt j x hx
    obtain ⟨h1, _, _⟩ := pt_end hn hp hlt
    exact ⟨hlt, by unfold whF; rw [h1]; exact cls_of h.uniq hx⟩
  · rintro ⟨hlt, rfl⟩
    obtain ⟨h1, _, h3⟩ := pt_end hn hp hlt
    unfold whF
    rw [h1]; exact h3

theorem wh_lt {n : Nat} (hn : n ≤ 16) {p : Nat → Nat} (hp : Perm n p) {x : Nat} (hx : x < n) : whF p n x < (cycs p n).length := by
  obtain ⟨h1, h2, _⟩ := pt_end hn hp hx
  unfold whF; rw [h1]; exact h2

theorem cycs_nodup {n : Nat} (hn : n ≤ 16) {p : Nat → Nat} (hp : Perm n p) (j : Nat) : ((cycs p n).getD j []).Nodup := (cyTo_inv hn hp n (Nat.le_refl _)).nodup j
theorem cycs_pos {n : Nat} (hn : n ≤ 16) {p : Nat → Nat} (hp : Perm n p) {j : Nat} (hj : j < (cycs p n).length) : 0 < ((cycs p n).getD j []).length := (cyTo_inv hn hp n (Nat.le_refl _)).pos j hj

theorem cnt_inc {n : Nat} (hn : n ≤ 16) {b w : Nat → Nat} (hb : Perm n b) (hw : Perm n w) (i j : Nat) : cntL ((cycs b n).getD i []) ((cycs w n).getD j []) ((cycs b n).getD i []).length = incT (whF b n) (whF w n) n i j := by
  unfold cntL incT
  rw [List.take_length]
  have hp : ((cycs b n).getD i []).Perm ((List.range n).filter fun x => whF b n x == i) := by
    rw [List.perm_ext_iff_of_nodup (cycs_nodup hn hb i) (List.Pairwise.filter _ List.nodup_range)]
    intro x
    rw [mem_cls hn hb]
    simp
  rw [(hp.filter _).length_eq, List.filter_filter]
  congr 1
  refine List.filter_congr fun x hx => ?_
  have hx := List.mem_range.1 hx
  rw [Bool.and_comm]
  congr 1
  by_cases c : x ∈ (cycs w n).getD j []
  · have := ((mem_cls hn hw).1 c).2
    rw [decide_eq_true c, this]; simp
  · have : whF w n x ≠ j := fun e => c ((mem_cls hn hw).2 ⟨hx, e⟩)
    rw [decide_eq_false c]
    cases h2 : (whF w n x == j) with
    | false => rfl
    | true => exact absurd (by simpa using h2) this

/-- A table of numbers: rows inside a row. -/
def mtF (K : Nat) (M : Nat → Nat → Nat) (i : Nat) : Dat := .ow 2 K 1 (nmF (M i))

theorem ap_nm (f : Nat → Nat) (k : Nat) (z : Dat) (j : Nat) (hj : j < k + 1) : nmF f j = apF k (nmF f) 0 (fup (fun _ => z) 0 (.i .i64 ((f k : Nat) : Int))) j := by
  unfold apF nmF
  by_cases h : j < k
  · rw [blt_true h]; rfl
  · have e : j = k := by omega
    subst e
    rw [blt_false (Nat.lt_irrefl _)]
    simp [fup]

theorem ap_mt (K : Nat) (M : Nat → Nat → Nat) (i : Nat) (g : Nat → Dat) (j : Nat) (hj : j < i + 1) : mtF K M j = fup (apF i (mtF K M) 0 g) i (.ow 2 K 1 (nmF (M i))) j := by
  unfold apF
  by_cases h : j < i
  · rw [fup_ne _ _ (by omega), blt_true h]; rfl
  · have e : j = i := by omega
    subst e
    rw [fup_same]; rfl

end Go.Proofs.Ytakpeibmaejmeaa
