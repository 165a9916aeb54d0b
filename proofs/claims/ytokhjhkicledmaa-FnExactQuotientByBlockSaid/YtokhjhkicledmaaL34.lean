import Derived.Test.YtokhjhkicledmaaL33
import Derived.Test.YtokhjhkicledmaaX95
/- Blocks: the reference's sets. -/
namespace Go.Proofs.Ytokhjhkicledmaa
open Go.RowKit DM
set_option linter.unusedVariables false
set_option linter.unusedSimpArgs false

structure WQ (N : Nat) (b w : Nat → Nat) (B x : Nat) (wh : Nat → Nat) (l : List Nat) : Prop where
  orb : ∀ S ∈ l, Orb N [b, w] B S
  idx : ∀ y j, wh y = j + 1 ↔ j < l.length ∧ (l.getD j 0).testBit y = true
  cov : ∀ y, y < x → 0 < wh y
  len : l.length ≤ x
  eq : Blk N [b, w] B → wh = (whTo (blkE N [b, w] B) x).1 ∧ l.length = (whTo (blkE N [b, w] B) x).2
theorem WQ.start (N : Nat) (b w : Nat → Nat) (B : Nat) : WQ N b w B 0 (fun _ => 0) [] where
  orb S h := absurd h List.not_mem_nil
  idx y j := ⟨fun h => by omega, fun h => absurd h.1 (Nat.not_lt_zero _)⟩
  cov y h := absurd h (Nat.not_lt_zero _)
  len := Nat.le_refl _
  eq _ := ⟨rfl, rfl⟩
theorem WQ.old {N : Nat} {b w : Nat → Nat} {B x : Nat} {wh : Nat → Nat} {l : List Nat} (h : WQ N b w B x wh l) (hx : 0 < wh x) : WQ N b w B (x + 1) wh l where
  orb := h.orb
  idx := h.idx
  cov y hy := by
    by_cases e : y = x
    · subst e; exact hx
    · exact h.cov y (by omega)
  len := by have := h.len; omega
  eq hb := by
    obtain ⟨h1, h2⟩ := h.eq hb
    rw [wh_old (by rw [← h1]; exact hx)]
    exact ⟨h1, h2⟩
theorem WQ.not {N : Nat} {b w : Nat → Nat} {B x : Nat} {wh : Nat → Nat} {l : List Nat} (h : WQ N b w B x wh l) (hx : ¬ 0 < wh x) {S y : Nat} (hS : Orb N [b, w] B S) (hxS : S.testBit x = true) (hy : S.testBit y = true) (hw : 0 < wh y) : ¬ Blk N [b, w] B := fun hb => hx (by
  have e : wh y = (wh y - 1) + 1 := by omega
  obtain ⟨h1, h2⟩ := (h.idx y (wh y - 1)).1 e
  have h3 := hb _ _ (h.orb _ (getD_mem h1)) hS ⟨y, h2, hy⟩
  rw [(h.idx x (wh y - 1)).2 ⟨h1, by rw [h3]; exact hxS⟩]
  omega)
theorem WQ.new {N : Nat} {b w : Nat → Nat} {B x : Nat} {wh : Nat → Nat} {l : List Nat} (h : WQ N b w B x wh l) (hx : ¬ 0 < wh x) {S : Nat} (hS : Orb N [b, w] B S) (hxS : S.testBit x = true) (h0 : ∀ y, S.testBit y = true → wh y = 0) : WQ N b w B (x + 1) (fun y => if S.testBit y = true then l.length + 1 else wh y) (l ++ [S]) where
  orb T hT := by
    rcases List.mem_append.1 hT with hT | hT
    · exact h.orb T hT
    · rw [List.mem_singleton.1 hT]; exact hS
  idx y j := by
    simp only [List.length_append, List.length_singleton]
    by_cases hj : j < l.length
    · rw [getD_snoc_lt l S 0 hj]
      by_cases hy : S.testBit y = true
      · rw [if_pos hy]
        constructor
        · intro e; omega
        · rintro ⟨_, h2⟩
          have := (h.idx y j).2 ⟨hj, h2⟩
          rw [h0 y hy] at this; omega
      · rw [if_neg hy, h.idx]
        exact ⟨fun h1 => ⟨by omega, h1.2⟩, fun h1 => ⟨hj, h1.2⟩⟩
    · by_cases e : j = l.length
      · subst e
        rw [getD_snoc]
        by_cases hy : S.testBit y = true
        · rw [if_pos hy]; exact ⟨fun _ => ⟨by omega, hy⟩, fun _ => rfl⟩
        · rw [if_neg hy]
          constructor
          · intro e; exact absurd ((h.idx y _).1 e).1 (by omega)
          · exact fun h1 => absurd h1.2 hy
      · constructor
        · intro h1
          split at h1
          · omega
          · have := ((h.idx y j).1 h1).1; omega
        · exact fun h1 => by omega
  cov y hy := by
    show 0 < if S.testBit y = true then l.length + 1 else wh y
    split
    · omega
    · rename_i hn
      by_cases e : y = x
      · subst e; exact absurd hxS hn
      · exact h.cov y (by omega)
  len := by have := h.len; simp only [List.length_append, List.length_singleton]; omega
  eq hb := by
    obtain ⟨h1, h2⟩ := h.eq hb
    rw [wh_new (by rw [← h1]; exact hx)]
    simp only [List.length_append, List.length_singleton]
    refine ⟨?_, by omega⟩
    funext y
    rw [blkE_blk hb hS hxS, ← h1, ← h2]

/-- The head of each set, and where it is led. -/
def hdF (N : Nat) (l : List Nat) (j : Nat) : Nat := (bitsL (l.getD j 0) N).getD 0 0
def tBF (N : Nat) (wh b : Nat → Nat) (l : List Nat) (j : Nat) : Nat := wh (b (hdF N l j)) - 1
theorem WQ.head {N : Nat} {b w : Nat → Nat} {B x : Nat} {wh : Nat → Nat} {l : List Nat} (h : WQ N b w B x wh l) (hL : ∀ g ∈ [b, w], Np N g) (hB : ∃ x, x < N ∧ B.testBit x = true) {j : Nat} (hj : j < l.length) : 0 < (bitsL (l.getD j 0) N).length ∧ hdF N l j < N ∧ (l.getD j 0).testBit (hdF N l j) = true := by
  have hO := h.orb _ (getD_mem hj)
  obtain ⟨y, hy⟩ := hO.some hL hB
  have hm : y ∈ bitsL (l.getD j 0) N := bits_mem.2 ⟨hO.low hL y hy, hy⟩
  have hp : 0 < (bitsL (l.getD j 0) N).length := List.length_pos_of_mem hm
  have := bits_mem.1 (getD_mem (l := bitsL (l.getD j 0) N) (t := 0) hp)
  exact ⟨hp, this.1, this.2⟩
/-- When all is led alike: a block, and the two answers are the same. -/
theorem WQ.done {N : Nat} (hN : N ≤ 16) {b w : Nat → Nat} {B : Nat} {wh : Nat → Nat} {l : List Nat} (h : WQ N b w B N wh l) (hL : ∀ g ∈ [b, w], Np N g) (hBl : Low N B) (hB : ∃ x, x < N ∧ B.testBit x = true)
    (hc : ∀ j, j < l.length → ∀ y, (l.getD j 0).testBit y = true → wh (b y) = wh (b (hdF N l j)) ∧ wh (w y) = wh (w (hdF N l j))) : Blk N [b, w] B ∧ l.length = qM N [b, w] B ∧ fillF (tBF N wh b l) l.length = qTo (qF N [b, w] B) b N ∧ fillF (tBF N wh w l) l.length = qTo (qF N [b, w] B) w N := by
  have hlt : ∀ p ∈ [b, w], ∀ y, y < N → p y < N := fun p hp => (hL p hp).perm.lt
  have hin : ∀ y, y < N → wh y - 1 < l.length ∧ (l.getD (wh y - 1) 0).testBit y = true := fun y hy => (h.idx y (wh y - 1)).1 (by have := h.cov y hy; omega)
  have hcp : ∀ p ∈ [b, w], ∀ j, j < l.length → ∀ y, (l.getD j 0).testBit y = true → wh (p y) = wh (p (hdF N l j)) := fun p hp j hj y hy => by
    rcases List.mem_cons.1 hp with rfl | hp
    · exact (hc j hj y hy).1
    · rw [List.mem_singleton.1 hp]; exact (hc j hj y hy).2
  have hblk := (blk_cover hN hL hBl hB (P := fun S => S ∈ l) h.orb (by
    obtain ⟨x, hx, _⟩ := hB
    exact ⟨_, getD_mem (hin x hx).1⟩) (fun S T hS hT ⟨y, h1, h2⟩ => by
    obtain ⟨i, hi, rfl⟩ := mem_getD hS
    obtain ⟨j, hj, rfl⟩ := mem_getD hT
    have e1 := (h.idx y i).2 ⟨hi, h1⟩
    have e2 := (h.idx y j).2 ⟨hj, h2⟩
    have : i = j := by omega
    rw [this]) (fun S hS p hp => by
    obtain ⟨j, hj, rfl⟩ := mem_getD hS
    have hh := (h.head hL hB hj).2
    have h1 := hin _ (hlt p hp _ hh.1)
    refine ⟨_, getD_mem h1.1, fun y hy => ?_⟩
    obtain ⟨z, h2, h3, rfl⟩ := (imgTo_bit N).1 hy
    rw [← hcp p hp j hj z h3]
    exact (hin _ (hlt p hp _ h2)).2)).1
  obtain ⟨e1, e2⟩ := h.eq hblk
  have eF : ∀ y, qF N [b, w] B y = wh y - 1 := fun y => by unfold qF; rw [← e1]
  have key : ∀ p ∈ [b, w], fillF (tBF N wh p l) l.length = qTo (qF N [b, w] B) p N := fun p hp => by
    have hv := qTo_val (F := qF N [b, w] B) (b := p) (tB := tBF N wh p l) N fun y hy => by
      obtain ⟨h1, h2⟩ := hin y hy
      rw [eF, eF]
      unfold tBF
      rw [hcp p hp _ h1 y h2]
    funext j
    rcases hv j with ⟨h1, h2⟩ | ⟨⟨y, hy, h1⟩, h2⟩
    · rw [h2]
      unfold fillF
      split
      · rename_i hj
        obtain ⟨_, h3, h4⟩ := h.head hL hB hj
        exact absurd (by rw [eF, (h.idx _ j).2 ⟨hj, h4⟩]; omega) (h1 _ h3)
      · rfl
    · rw [h2]
      unfold fillF
      rw [if_pos (by rw [← h1, eF]; exact (hin y hy).1)]
  exact ⟨hblk, e2, key b (.head _), key w (.tail _ (.head _))⟩
theorem WQ.bad {N : Nat} {b w : Nat → Nat} {B : Nat} {wh : Nat → Nat} {l : List Nat} (h : WQ N b w B N wh l) (hL : ∀ g ∈ [b, w], Np N g) (hB : ∃ x, x < N ∧ B.testBit x = true) {p : Nat → Nat} (hp : p ∈ [b, w]) {j : Nat} (hj : j < l.length) {y : Nat} (hy : (l.getD j 0).testBit y = true) (hne : wh (p y) ≠ wh (p (hdF N l j))) : ¬ Blk N [b, w] B := fun hb => hne (by
  have hlt := (hL p hp).perm.lt
  have hO := h.orb _ (getD_mem hj)
  obtain ⟨_, h3, h4⟩ := h.head hL hB hj
  have hy' : y < N := hO.low hL y hy
  have hO2 := hO.step hL hp
  have c1 := h.cov _ (hlt y hy')
  obtain ⟨h1, h2⟩ := (h.idx (p y) (wh (p y) - 1)).1 (by omega)
  have e := hb _ _ (h.orb _ (getD_mem h1)) hO2 ⟨p y, h2, (imgTo_bit N).2 ⟨y, hy', hy, rfl⟩⟩
  have h5 : (l.getD (wh (p y) - 1) 0).testBit (p (hdF N l j)) = true := by rw [e]; exact (imgTo_bit N).2 ⟨_, h3, h4, rfl⟩
  have := (h.idx _ _).2 ⟨h1, h5⟩
  omega)

/-- 1 + n at the first i elements. -/
def whS (own : List Nat) (n i : Nat) (wh : Nat → Nat) (y : Nat) : Nat := if y ∈ own.take i then n + 1 else wh y
theorem whS_zero (own : List Nat) (n : Nat) (wh : Nat → Nat) : whS own n 0 wh = wh := by funext y; simp [whS]
theorem whS_step {own : List Nat} {n i : Nat} {wh : Nat → Nat} (hi : i < own.length) : whS own n (i + 1) wh = up (whS own n i wh) (own.getD i 0) (n + 1) := by
  funext y
  show (if y ∈ own.take (i + 1) then n + 1 else wh y) = if y = own.getD i 0 then n + 1 else if y ∈ own.take i then n + 1 else wh y
  by_cases e : y = own.getD i 0
  · rw [if_pos ((mem_take_succ hi).2 (.inr e)), if_pos e]
  · rw [if_neg e]
    have : y ∈ own.take (i + 1) ↔ y ∈ own.take i := by rw [mem_take_succ hi]; exact or_iff_left e
    by_cases h : y ∈ own.take i
    · rw [if_pos (this.2 h), if_pos h]
    · rw [if_neg fun h2 => h (this.1 h2), if_neg h]

def setsZ (N : Nat) (l : List Nat) (i : Nat) : Dat := .ow 0 (bitsL (l.getD i 0) N).length 1 (numsF (bitsL (l.getD i 0) N))
theorem ap_setsZ (N : Nat) (l : List Nat) (S : Nat) (g : Nat → Dat) (j : Nat) (hj : j < l.length + 1) : setsZ N (l ++ [S]) j = fup (apF l.length (setsZ N l) 0 g) l.length (.ow 0 (bitsL S N).length 1 (numsF (bitsL S N))) j := by
  by_cases h : j = l.length
  · subst h; rw [fup_same]; unfold setsZ; rw [getD_snoc]
  · rw [fup_ne _ _ h]
    unfold setsZ apF
    rw [getD_snoc_lt l S 0 (by omega), blt_true (by omega : j < l.length)]
    rfl

end Go.Proofs.Ytokhjhkicledmaa
