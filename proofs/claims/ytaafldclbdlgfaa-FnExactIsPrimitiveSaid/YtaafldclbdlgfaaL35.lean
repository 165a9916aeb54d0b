import Derived.Test.YtaafldclbdlgfaaL3
/- Lists of numbers by length, then number by number; sorted lists without repetition. -/
namespace Go.Proofs.Ytaafldclbdlgfaa
open Go.RowKit DM
set_option linter.unusedVariables false
set_option linter.unusedSimpArgs false

def lexL : List Nat → List Nat → Int
  | [], [] => 0
  | [], _ :: _ => -1
  | _ :: _, [] => 1
  | a :: l, b :: k => if a < b then -1 else if b < a then 1 else lexL l k
theorem lex_rng : ∀ l k : List Nat, lexL l k = -1 ∨ lexL l k = 0 ∨ lexL l k = 1
  | [], [] => .inr (.inl rfl)
  | [], _ :: _ => .inl rfl
  | _ :: _, [] => .inr (.inr rfl)
  | a :: l, b :: k => by
    simp only [lexL]
    split
    · exact .inl rfl
    · split
      · exact .inr (.inr rfl)
      · exact lex_rng l k
theorem lex_eq : ∀ {l k : List Nat}, lexL l k = 0 ↔ l = k
  | [], [] => by simp [lexL]
  | [], _ :: _ => by simp [lexL]
  | _ :: _, [] => by simp [lexL]
  | a :: l, b :: k => by
    simp only [lexL, List.cons.injEq]
    by_cases h1 : a < b
    · rw [if_pos h1]; exact ⟨fun h => by omega, fun h => by omega⟩
    · rw [if_neg h1]
      by_cases h2 : b < a
      · rw [if_pos h2]; exact ⟨fun h => by omega, fun h => by omega⟩
      · rw [if_neg h2, lex_eq (l := l) (k := k)]; exact ⟨fun h => ⟨by omega, h⟩, fun h => h.2⟩
theorem lex_anti : ∀ l k : List Nat, lexL l k = - lexL k l
  | [], [] => rfl
  | [], _ :: _ => rfl
  | _ :: _, [] => rfl
  | a :: l, b :: k => by
    simp only [lexL]
    by_cases h1 : a < b
    · rw [if_pos h1, if_neg (by omega), if_pos h1]
    · by_cases h2 : b < a
      · rw [if_neg h1, if_pos h2, if_pos h2]; rfl
      · rw [if_neg h1, if_neg h2, if_neg h2, if_neg h1, lex_anti l k]
theorem lex_trans : ∀ {l k j : List Nat}, lexL l k < 0 → lexL k j < 0 → lexL l j < 0
  | [], [], _, h, _ => by simp [lexL] at h
  | [], _ :: _, [], _, h => by simp [lexL] at h
  | [], _ :: _, _ :: _, _, _ => by simp [lexL]
  | _ :: _, [], _, h, _ => by simp [lexL] at h
  | _ :: _, _ :: _, [], _, h => by simp [lexL] at h
  | a :: l, b :: k, c :: j, h1, h2 => by
    simp only [lexL] at h1 h2 ⊢
    by_cases a1 : a < b
    · by_cases b1 : c < b
      · rw [if_neg (by omega), if_pos b1] at h2; omega
      · rw [if_pos (by omega)]; omega
    · rw [if_neg a1] at h1
      by_cases a2 : b < a
      · rw [if_pos a2] at h1; omega
      · rw [if_neg a2] at h1
        have e : a = b := by omega
        subst e
        by_cases b1 : a < c
        · rw [if_pos b1]; omega
        · rw [if_neg b1] at h2 ⊢
          by_cases b2 : c < a
          · rw [if_pos b2] at h2; omega
          · rw [if_neg b2] at h2 ⊢
            exact lex_trans h1 h2

/-- Fewer numbers first. -/
def befL (l k : List Nat) : Int := if l.length < k.length then -1 else if k.length < l.length then 1 else lexL l k
theorem bef_rng (l k : List Nat) : befL l k = -1 ∨ befL l k = 0 ∨ befL l k = 1 := by
  unfold befL
  split
  · exact .inl rfl
  · split
    · exact .inr (.inr rfl)
    · exact lex_rng l k
theorem bef_eq {l k : List Nat} : befL l k = 0 ↔ l = k := by
  unfold befL
  by_cases h1 : l.length < k.length
  · rw [if_pos h1]; exact ⟨fun h => by omega, fun h => by subst h; omega⟩
  · rw [if_neg h1]
    by_cases h2 : k.length < l.length
    · rw [if_pos h2]; exact ⟨fun h => by omega, fun h => by subst h; omega⟩
    · rw [if_neg h2]; exact lex_eq
theorem bef_anti (l k : List Nat) : befL l k = - befL k l := by
  unfold befL
  by_cases h1 : l.length < k.length
  · rw [if_pos h1, if_neg (by omega), if_pos h1]
  · by_cases h2 : k.length < l.length
    · rw [if_neg h1, if_pos h2, if_pos h2]; rfl
    · rw [if_neg h1, if_neg h2, if_neg h2, if_neg h1, lex_anti]
theorem bef_trans {l k j : List Nat} (h1 : befL l k < 0) (h2 : befL k j < 0) : befL l j < 0 := by
  unfold befL at *
  by_cases a1 : l.length < k.length
  · by_cases b1 : j.length < k.length
    · rw [if_neg (by omega), if_pos b1] at h2; omega
    · rw [if_pos (by omega)]; omega
  · rw [if_neg a1] at h1
    by_cases a2 : k.length < l.length
    · rw [if_pos a2] at h1; omega
    · rw [if_neg a2] at h1
      by_cases b1 : k.length < j.length
      · rw [if_pos (by omega)]; omega
      · rw [if_neg b1] at h2
        by_cases b2 : j.length < k.length
        · rw [if_pos b2] at h2; omega
        · rw [if_neg b2] at h2
          rw [if_neg (by omega), if_neg (by omega)]
          exact lex_trans h1 h2
theorem bef_irr (l : List Nat) : ¬ befL l l < 0 := by rw [bef_eq.2 rfl]; omega
theorem bef_asym {l k : List Nat} (h : befL l k < 0) : ¬ befL k l < 0 := by rw [bef_anti] at h; omega

/-- Strictly ascending. -/
def Srt (L : List (List Nat)) : Prop := L.Pairwise fun l k => befL l k < 0
theorem srt_unique : ∀ {L K : List (List Nat)}, Srt L → Srt K → (∀ x, x ∈ L ↔ x ∈ K) → L = K
  | [], [], _, _, _ => rfl
  | [], b :: K, _, _, h => absurd ((h b).2 (.head _)) List.not_mem_nil
  | a :: L, [], _, _, h => absurd ((h a).1 (.head _)) List.not_mem_nil
  | a :: L, b :: K, hL, hK, h => by
    obtain ⟨hL1, hL2⟩ := List.pairwise_cons.1 hL
    obtain ⟨hK1, hK2⟩ := List.pairwise_cons.1 hK
    have e : a = b := by
      rcases List.mem_cons.1 ((h a).1 (.head _)) with e | h1
      · exact e
      · rcases List.mem_cons.1 ((h b).2 (.head _)) with e | h2
        · exact e.symm
        · exact absurd (hK1 a h1) (bef_asym (hL1 b h2))
    subst e
    rw [srt_unique (L := L) (K := K) hL2 hK2 fun x => ⟨fun hx => by
      rcases List.mem_cons.1 ((h x).1 (.tail _ hx)) with e | h1
      · subst e; exact absurd (hL1 x hx) (bef_irr x)
      · exact h1, fun hx => by
      rcases List.mem_cons.1 ((h x).2 (.tail _ hx)) with e | h1
      · subst e; exact absurd (hK1 x hx) (bef_irr x)
      · exact h1⟩]

/-- One more, put where it belongs. -/
theorem srt_ins {L : List (List Nat)} (h : Srt L) {own : List Nat} {at_ : Nat} (h1 : ∀ j, j < at_ → befL (L.getD j []) own < 0) (h2 : at_ ≤ L.length) (h3 : at_ < L.length → befL own (L.getD at_ []) < 0) : Srt (L.take at_ ++ own :: L.drop at_) ∧ ∀ x, x ∈ L.take at_ ++ own :: L.drop at_ ↔ x = own ∨ x ∈ L := by
  have gd : ∀ j, (hj : j < L.length) → L.getD j [] = L[j] := fun j hj => by rw [List.getD_eq_getElem?_getD, List.getElem?_eq_getElem hj]; rfl
  have htk : ∀ x ∈ L.take at_, befL x own < 0 := fun x hx => by
    obtain ⟨j, hj, rfl⟩ := List.getElem_of_mem hx
    rw [List.length_take] at hj
    have := h1 j (by omega)
    rw [gd j (by omega)] at this
    rw [List.getElem_take]; exact this
  have hdr : ∀ x ∈ L.drop at_, befL own x < 0 := fun x hx => by
    obtain ⟨j, hj, rfl⟩ := List.getElem_of_mem hx
    rw [List.length_drop] at hj
    have h4 := h3 (by omega)
    rw [gd at_ (by omega)] at h4
    rw [List.getElem_drop]
    cases j with
    | zero => exact h4
    | succ j => exact bef_trans h4 (List.pairwise_iff_getElem.1 h at_ (at_ + (j + 1)) (by omega) (by omega) (by omega))
  refine ⟨List.pairwise_append.2 ⟨h.sublist (List.take_sublist _ _), List.pairwise_cons.2 ⟨hdr, h.sublist (List.drop_sublist _ _)⟩, fun x hx y hy => ?_⟩, fun x => ?_⟩
  · rcases List.mem_cons.1 hy with rfl | hy
    · exact htk x hx
    · exact bef_trans (htk x hx) (hdr y hy)
  · have e : x ∈ L ↔ x ∈ L.take at_ ∨ x ∈ L.drop at_ := by rw [← List.mem_append, List.take_append_drop]
    rw [e, List.mem_append, List.mem_cons]
    constructor
    · rintro (h | h | h)
      · exact .inr (.inl h)
      · exact .inl h
      · exact .inr (.inr h)
    · rintro (h | h | h)
      · exact .inr (.inl h)
      · exact .inl h
      · exact .inr (.inr h)

/-- Of neighbours that are the same the first. -/
def cmpL : List (List Nat) → List (List Nat)
  | [] => []
  | [a] => [a]
  | a :: b :: L => if a = b then cmpL (b :: L) else a :: cmpL (b :: L)
theorem cmp_mem : ∀ {L : List (List Nat)} {x : List Nat}, x ∈ cmpL L ↔ x ∈ L
  | [], x => Iff.rfl
  | [a], x => Iff.rfl
  | a :: b :: L, x => by
    simp only [cmpL]
    have ih := cmp_mem (L := b :: L) (x := x)
    by_cases e : a = b
    · rw [if_pos e, ih, e]; simp
    · rw [if_neg e, List.mem_cons, ih]; simp
theorem cmp_srt : ∀ {L : List (List Nat)}, (L.Pairwise fun l k => befL l k ≤ 0) → Srt (cmpL L)
  | [], _ => .nil
  | [a], _ => List.pairwise_singleton _ _
  | a :: b :: L, h => by
    obtain ⟨h1, h2⟩ := List.pairwise_cons.1 h
    have ih := cmp_srt (L := b :: L) h2
    simp only [cmpL]
    by_cases e : a = b
    · rw [if_pos e]; exact ih
    · rw [if_neg e]
      refine List.pairwise_cons.2 ⟨fun x hx => ?_, ih⟩
      have hx := cmp_mem.1 hx
      have hab : befL a b < 0 := by
        have h3 := h1 b (.head _)
        have : befL a b ≠ 0 := fun h => e (bef_eq.1 h)
        omega
      rcases List.mem_cons.1 hx with rfl | hx
      · exact hab
      · have h4 := (List.pairwise_cons.1 h2).1 x hx
        by_cases e2 : befL b x = 0
        · rw [← bef_eq.1 e2]; exact hab
        · exact bef_trans hab (by omega)

end Go.Proofs.Ytaafldclbdlgfaa
