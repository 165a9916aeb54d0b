import Derived.Test.YtaafldclbdlgfaaL35
import Derived.Test.YtaafldclbdlgfaaL9
/- Blocks of 0 and each other number, put in one after the other where they belong. -/
namespace Go.Proofs.Ytaafldclbdlgfaa
open Go.RowKit DM
set_option linter.unusedVariables false
set_option linter.unusedSimpArgs false

/-- How many lists at the beginning come before own. -/
def atB (own : List Nat) : List (List Nat) → Nat
  | [] => 0
  | a :: L => if befL a own < 0 then atB own L + 1 else 0
theorem atB_le (own : List Nat) : ∀ L, atB own L ≤ L.length
  | [] => Nat.le_refl _
  | a :: L => by
    have := atB_le own L
    simp only [atB, List.length_cons]
    split <;> omega
theorem atB_lt (own : List Nat) : ∀ {L : List (List Nat)} {j : Nat}, j < atB own L → befL (L.getD j []) own < 0
  | [], j, h => by simp [atB] at h
  | a :: L, j, h => by
    simp only [atB] at h
    split at h
    · rename_i h1
      cases j with
      | zero => exact h1
      | succ j => exact atB_lt own (L := L) (by omega)
    · omega
theorem atB_at (own : List Nat) : ∀ {L : List (List Nat)}, atB own L < L.length → ¬ befL (L.getD (atB own L) []) own < 0
  | [], h => by simp [atB] at h
  | a :: L, h => by
    simp only [atB] at h ⊢
    split
    · rename_i h1
      rw [if_pos h1] at h
      exact atB_at own (L := L) (by simpa using h)
    · rename_i h1; exact h1
/-- The first place that does not come before is atB. -/
theorem atB_eq {own : List Nat} {L : List (List Nat)} {k : Nat} (hk : k ≤ L.length) (h1 : ∀ j, j < k → befL (L.getD j []) own < 0) (h2 : k < L.length → ¬ befL (L.getD k []) own < 0) : k = atB own L := by
  rcases Nat.lt_trichotomy k (atB own L) with h | h | h
  · exact absurd (atB_lt own h) (h2 (Nat.lt_of_lt_of_le h (atB_le own L)))
  · exact h
  · exact absurd (h1 _ h) (atB_at own (by omega))

def insL (own : List Nat) (L : List (List Nat)) : List (List Nat) := if atB own L < L.length ∧ befL (L.getD (atB own L) []) own = 0 then L else L.take (atB own L) ++ own :: L.drop (atB own L)

theorem ins_srt {own : List Nat} {L : List (List Nat)} (h : Srt L) : Srt (insL own L) ∧ ∀ x, x ∈ insL own L ↔ x = own ∨ x ∈ L := by
  unfold insL
  split
  · rename_i hc
    refine ⟨h, fun x => ⟨.inr, fun hx => ?_⟩⟩
    rcases hx with rfl | hx
    · have e := bef_eq.1 hc.2
      rw [List.getD_eq_getElem?_getD, List.getElem?_eq_getElem hc.1] at e
      rw [← e]; exact List.getElem_mem hc.1
    · exact hx
  · rename_i hc
    refine srt_ins h (fun j hj => atB_lt own hj) (atB_le own L) fun hl => ?_
    have h1 := atB_at own hl
    have h2 : befL (L.getD (atB own L) []) own ≠ 0 := fun h => hc ⟨hl, h⟩
    rw [bef_anti]
    have := bef_rng (L.getD (atB own L) []) own
    omega

/-- The blocks of 0 and 1, .., k. -/
noncomputable def blsL (N : Nat) (b w : Nat → Nat) : Nat → List (List Nat)
  | 0 => []
  | k + 1 => insL (blkL N b w 0 (k + 1)) (blsL N b w k)
theorem bls_srt (N : Nat) (b w : Nat → Nat) : ∀ k, Srt (blsL N b w k) ∧ ∀ x, x ∈ blsL N b w k ↔ ∃ j, j < k ∧ x = blkL N b w 0 (j + 1)
  | 0 => ⟨.nil, fun x => by simp [blsL]⟩
  | k + 1 => by
    obtain ⟨h1, h2⟩ := bls_srt N b w k
    obtain ⟨h3, h4⟩ := ins_srt (own := blkL N b w 0 (k + 1)) h1
    refine ⟨h3, fun x => ?_⟩
    show x ∈ insL _ _ ↔ _
    rw [h4, h2]
    constructor
    · rintro (rfl | ⟨j, hj, rfl⟩)
      · exact ⟨k, by omega, rfl⟩
      · exact ⟨j, by omega, rfl⟩
    · rintro ⟨j, hj, rfl⟩
      by_cases e : j = k
      · subst e; exact .inl rfl
      · exact .inr ⟨j, by omega, rfl⟩

noncomputable def bkR (N : Nat) (b w : Nat → Nat) (k : Nat) : List (List Nat) := (List.range k).map fun j => blkL N b w 0 (j + 1)
theorem bkR_step (N : Nat) (b w : Nat → Nat) (k : Nat) : bkR N b w (k + 1) = bkR N b w k ++ [blkL N b w 0 (k + 1)] := by simp [bkR, List.range_succ]
theorem bkR_len (N : Nat) (b w : Nat → Nat) (k : Nat) : (bkR N b w k).length = k := by simp [bkR]
theorem blkL_len (N : Nat) (b w : Nat → Nat) (x y : Nat) : (blkL N b w x y).length ≤ N := by
  have := List.length_filter_le (fun i => @decide (Gen b w x y i x) (Classical.propDecidable _)) (List.range N)
  simpa [blkL] using this
theorem bkR_small (N : Nat) (b w : Nat → Nat) (k : Nat) : ∀ l ∈ bkR N b w k, l.length ≤ N := fun l hl => by
  obtain ⟨j, _, rfl⟩ := List.mem_map.1 hl
  exact blkL_len _ _ _ _ _

theorem ins_len (own : List Nat) (L : List (List Nat)) : (insL own L).length ≤ L.length + 1 := by
  have := atB_le own L
  unfold insL
  split
  · omega
  · simp only [List.length_append, List.length_cons, List.length_take, List.length_drop]; omega
theorem bls_len (N : Nat) (b w : Nat → Nat) : ∀ k, (blsL N b w k).length ≤ k
  | 0 => Nat.le_refl _
  | k + 1 => by
    have h1 := bls_len N b w k
    have h2 := ins_len (blkL N b w 0 (k + 1)) (blsL N b w k)
    show (insL _ _).length ≤ _
    omega
theorem bls_small (N : Nat) (b w : Nat → Nat) (k j : Nat) : ((blsL N b w k).getD j []).length ≤ N := by
  rw [List.getD_eq_getElem?_getD]
  by_cases h : j < (blsL N b w k).length
  · rw [List.getElem?_eq_getElem h]
    obtain ⟨i, _, e⟩ := ((bls_srt N b w k).2 _).1 (List.getElem_mem h)
    rw [Option.getD_some, e]; exact blkL_len _ _ _ _ _
  · rw [List.getElem?_eq_none (by omega)]; exact Nat.zero_le _

/-- Sorted, and of neighbours that are the same the first: that is what insertion comes to. -/
theorem cmp_bls {N : Nat} {b w : Nat → Nat} {k : Nat} {L' : List (List Nat)} (hp : L'.Perm (bkR N b w k)) (hs : L'.Pairwise fun l k => ¬ befL k l < 0) : cmpL L' = blsL N b w k := by
  obtain ⟨h1, h2⟩ := bls_srt N b w k
  refine srt_unique (cmp_srt (hs.imp fun {a c} h => ?_)) h1 fun x => ?_
  · rw [bef_anti]; have := bef_rng c a; omega
  · rw [cmp_mem, hp.mem_iff, h2]
    unfold bkR
    rw [List.mem_map]
    constructor
    · rintro ⟨j, hj, rfl⟩; exact ⟨j, List.mem_range.1 hj, rfl⟩
    · rintro ⟨j, hj, rfl⟩; exact ⟨j, List.mem_range.2 hj, rfl⟩

end Go.Proofs.Ytaafldclbdlgfaa
