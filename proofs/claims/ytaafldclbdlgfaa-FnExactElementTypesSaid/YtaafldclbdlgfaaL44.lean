import Derived.Test.YtaafldclbdlgfaaL35
import Derived.Test.YtaafldclbdlgfaaL21
/- Types of elements: lists in the order of their numbers, each once, counted. -/
namespace Go.Proofs.Ytaafldclbdlgfaa
open Go.RowKit DM
set_option linter.unusedVariables false
set_option linter.unusedSimpArgs false

theorem lex_irr (l : List Nat) : ¬ lexL l l < 0 := by rw [lex_eq.2 rfl]; omega
theorem lex_asym {l k : List Nat} (h : lexL l k < 0) : ¬ lexL k l < 0 := by rw [lex_anti] at h; omega

/-- Strictly ascending. -/
def SrtX (L : List (List Nat)) : Prop := L.Pairwise fun l k => lexL l k < 0
theorem srtx_unique : ∀ {L K : List (List Nat)}, SrtX L → SrtX K → (∀ x, x ∈ L ↔ x ∈ K) → L = K
  | [], [], _, _, _ => rfl
  | [], b :: K, _, _, h => absurd ((h b).2 (.head _)) List.not_mem_nil
  | a :: L, [], _, _, h => absurd ((h a).1 (.head _)) List.not_mem_nil
  | a :: L, b :: K, hL, hK, h => by
    obtain ⟨hL1, hL2⟩ := List.pairwise_cons.1 hL
    obtain ⟨hK1, hK2⟩ := List.pairwise_cons.1 hK
    have e : a = b := by
      rcases List.mem_cons.1 ((h a).1 (.head _)) with e | h1
      · exact e
      · rcases List.mem_cons.1 ((h b).2 (.head _)) with e | h2
        · exact e.symm
        · exact absurd (hK1 a h1) (lex_asym (hL1 b h2))
    subst e
    rw [srtx_unique (L := L) (K := K) hL2 hK2 fun x => ⟨fun hx => by
      rcases List.mem_cons.1 ((h x).1 (.tail _ hx)) with e | h1
      · subst e; exact absurd (hL1 x hx) (lex_irr x)
      · exact h1, fun hx => by
      rcases List.mem_cons.1 ((h x).2 (.tail _ hx)) with e | h1
      · subst e; exact absurd (hK1 x hx) (lex_irr x)
      · exact h1⟩]

/-- One more, put where it belongs. -/
theorem srtx_ins {L : List (List Nat)} (h : SrtX L) {own : List Nat} {at_ : Nat} (h1 : ∀ j, j < at_ → lexL (L.getD j []) own < 0) (h2 : at_ ≤ L.length) (h3 : at_ < L.length → lexL own (L.getD at_ []) < 0) : SrtX (L.take at_ ++ own :: L.drop at_) ∧ ∀ x, x ∈ L.take at_ ++ own :: L.drop at_ ↔ x = own ∨ x ∈ L := by
  have gd : ∀ j, (hj : j < L.length) → L.getD j [] = L[j] := fun j hj => by rw [List.getD_eq_getElem?_getD, List.getElem?_eq_getElem hj]; rfl
  have htk : ∀ x ∈ L.take at_, lexL x own < 0 := fun x hx => by
    obtain ⟨j, hj, rfl⟩ := List.getElem_of_mem hx
    rw [List.length_take] at hj
    have := h1 j (by omega)
    rw [gd j (by omega)] at this
    rw [List.getElem_take]; exact this
  have hdr : ∀ x ∈ L.drop at_, lexL own x < 0 := fun x hx => by
    obtain ⟨j, hj, rfl⟩ := List.getElem_of_mem hx
    rw [List.length_drop] at hj
    have h4 := h3 (by omega)
    rw [gd at_ (by omega)] at h4
    rw [List.getElem_drop]
    cases j with
    | zero => exact h4
    | succ j => exact lex_trans h4 (List.pairwise_iff_getElem.1 h at_ (at_ + (j + 1)) (by omega) (by omega) (by omega))
  refine ⟨List.pairwise_append.2 ⟨h.sublist (List.take_sublist _ _), List.pairwise_cons.2 ⟨hdr, h.sublist (List.drop_sublist _ _)⟩, fun x hx y hy => ?_⟩, fun x => ?_⟩
  · rcases List.mem_cons.1 hy with rfl | hy
    · exact htk x hx
    · exact lex_trans (htk x hx) (hdr y hy)
  · have e : x ∈ L ↔ x ∈ L.take at_ ∨ x ∈ L.drop at_ := by rw [← List.mem_append, List.take_append_drop]
    rw [e, List.mem_append, List.mem_cons]
    constructor
    · rintro (h | h | h)
      · exact .inr (.inl h)
      · exact .inl h
      · exact .inr (.inr h)
    · rintro (h | h | h)
      · exact .inr (.inl h)
      · exact .inl h
      · exact .inr (.inr h)

/-- How many lists at the beginning come before own. -/
def atX (own : List Nat) : List (List Nat) → Nat
  | [] => 0
  | a :: L => if lexL a own < 0 then atX own L + 1 else 0
theorem atX_le (own : List Nat) : ∀ L, atX own L ≤ L.length
  | [] => Nat.le_refl _
  | a :: L => by
    have := atX_le own L
    simp only [atX, List.length_cons]
    split <;> omega
theorem atX_lt (own : List Nat) : ∀ {L : List (List Nat)} {j : Nat}, j < atX own L → lexL (L.getD j []) own < 0
  | [], j, h => by simp [atX] at h
  | a :: L, j, h => by
    simp only [atX] at h
    split at h
    · rename_i h1
      cases j with
      | zero => exact h1
      | succ j => exact atX_lt own (L := L) (by omega)
    · omega
theorem atX_at (own : List Nat) : ∀ {L : List (List Nat)}, atX own L < L.length → ¬ lexL (L.getD (atX own L) []) own < 0
  | [], h => by simp [atX] at h
  | a :: L, h => by
    simp only [atX] at h ⊢
    split
    · rename_i h1
      rw [if_pos h1] at h
      exact atX_at own (L := L) (by simpa using h)
    · rename_i h1; exact h1
/-- The first place that does not come before is atX. -/
theorem atX_eq {own : List Nat} {L : List (List Nat)} {k : Nat} (hk : k ≤ L.length) (h1 : ∀ j, j < k → lexL (L.getD j []) own < 0) (h2 : k < L.length → ¬ lexL (L.getD k []) own < 0) : k = atX own L := by
  rcases Nat.lt_trichotomy k (atX own L) with h | h | h
  · exact absurd (atX_lt own h) (h2 (Nat.lt_of_lt_of_le h (atX_le own L)))
  · exact h
  · exact absurd (h1 _ h) (atX_at own (by omega))

def insX (own : List Nat) (L : List (List Nat)) : List (List Nat) := if atX own L < L.length ∧ lexL (L.getD (atX own L) []) own = 0 then L else L.take (atX own L) ++ own :: L.drop (atX own L)

theorem insx_srt {own : List Nat} {L : List (List Nat)} (h : SrtX L) : SrtX (insX own L) ∧ ∀ x, x ∈ insX own L ↔ x = own ∨ x ∈ L := by
  unfold insX
  split
  · rename_i hc
    refine ⟨h, fun x => ⟨.inr, fun hx => ?_⟩⟩
    rcases hx with rfl | hx
    · have e := lex_eq.1 hc.2
      rw [List.getD_eq_getElem?_getD, List.getElem?_eq_getElem hc.1] at e
      rw [← e]; exact List.getElem_mem hc.1
    · exact hx
  · rename_i hc
    refine srtx_ins h (fun j hj => atX_lt own hj) (atX_le own L) fun hl => ?_
    have h1 := atX_at own hl
    have h2 : lexL (L.getD (atX own L) []) own ≠ 0 := fun h => hc ⟨hl, h⟩
    rw [lex_anti]
    have := lex_rng (L.getD (atX own L) []) own
    omega

theorem insx_len (own : List Nat) (L : List (List Nat)) : (insX own L).length ≤ L.length + 1 := by
  have := atX_le own L
  unfold insX
  split
  · omega
  · simp only [List.length_append, List.length_cons, List.length_take, List.length_drop]; omega

/-- All of a list, each once, in order. -/
def dL (X : List (List Nat)) : List (List Nat) := X.foldl (fun D t => insX t D) []
theorem dL_snoc (X : List (List Nat)) (t : List Nat) : dL (X ++ [t]) = insX t (dL X) := by simp [dL]
theorem rev_ind {P : List (List Nat) → Prop} (h0 : P []) (h1 : ∀ X t, P X → P (X ++ [t])) (X : List (List Nat)) : P X := by
  have : ∀ n, ∀ X : List (List Nat), X.length = n → P X := by
    intro n
    induction n with
    | zero => intro X h; rw [List.eq_nil_of_length_eq_zero h]; exact h0
    | succ n ih =>
      intro X h
      have hne : X ≠ [] := fun e => by subst e; simp at h
      rw [← List.dropLast_concat_getLast hne]
      exact h1 _ _ (ih _ (by simp [h]))
  exact this _ X rfl

theorem dL_ok (X : List (List Nat)) : SrtX (dL X) ∧ ∀ x, x ∈ dL X ↔ x ∈ X := by
  refine rev_ind (P := fun X => SrtX (dL X) ∧ ∀ x, x ∈ dL X ↔ x ∈ X) ⟨.nil, fun x => Iff.rfl⟩ (fun X t h => ?_) X
  obtain ⟨h1, h2⟩ := insx_srt (own := t) h.1
  rw [dL_snoc]
  exact ⟨h1, fun x => by rw [h2, h.2, List.mem_append, List.mem_singleton, or_comm]⟩

theorem dL_len (X : List (List Nat)) : (dL X).length ≤ X.length := by
  refine rev_ind (P := fun X => (dL X).length ≤ X.length) (Nat.le_refl _) (fun X t h => ?_) X
  have := insx_len t (dL X)
  rw [dL_snoc, List.length_append, List.length_singleton]; omega

theorem dL_perm {X Y : List (List Nat)} (h : X.Perm Y) : dL X = dL Y :=
  srtx_unique (dL_ok X).1 (dL_ok Y).1 fun x => by rw [(dL_ok X).2, (dL_ok Y).2, h.mem_iff]

/-- How often each occurs. -/
def cnX (X : List (List Nat)) (D : List (List Nat)) : List Nat := D.map fun t => X.count t
theorem cnX_len (X D : List (List Nat)) : (cnX X D).length = D.length := by simp [cnX]
theorem cnX_perm {X Y : List (List Nat)} (h : X.Perm Y) (D : List (List Nat)) : cnX X D = cnX Y D := by
  unfold cnX
  exact List.map_congr_left fun t _ => h.count_eq t
theorem cnX_get (X D : List (List Nat)) {j : Nat} (hj : j < D.length) : (cnX X D).getD j 0 = X.count (D.getD j []) := by
  unfold cnX
  simp [List.getD_eq_getElem?_getD, List.getElem?_eq_getElem hj]
theorem cnX_le (X D : List (List Nat)) (j : Nat) : (cnX X D).getD j 0 ≤ X.length := by
  by_cases h : j < D.length
  · rw [cnX_get X D h]; exact List.count_le_length
  · rw [List.getD_eq_getElem?_getD, List.getElem?_eq_none (by rw [cnX_len]; omega)]; exact Nat.zero_le _

theorem cnX_hit {X D : List (List Nat)} (hD : SrtX D) {a : Nat} (ha : a < D.length) {t : List Nat} (e : D.getD a [] = t) {j : Nat} (hj : j < D.length) : (cnX (X ++ [t]) D).getD j 0 = if j = a then (cnX X D).getD a 0 + 1 else (cnX X D).getD j 0 := by
  rw [cnX_get _ _ hj, List.count_append, List.count_singleton]
  by_cases h : j = a
  · subst h; rw [if_pos rfl, cnX_get _ _ hj, e, if_pos (by simp)]
  · rw [if_neg h, cnX_get _ _ hj, if_neg]
    · rfl
    · intro h2
      have h2 : t = D.getD j [] := by simpa using h2
      rw [← e] at h2
      simp only [List.getD_eq_getElem?_getD, List.getElem?_eq_getElem hj, List.getElem?_eq_getElem ha, Option.getD_some] at h2
      have hp := List.pairwise_iff_getElem.1 hD
      rcases Nat.lt_trichotomy j a with h3 | h3 | h3
      · have := hp j a hj ha h3; rw [h2] at this; exact lex_irr _ this
      · exact h h3
      · have := hp a j ha hj h3; rw [h2] at this; exact lex_irr _ this

theorem cnX_new {X D : List (List Nat)} {t : List Nat} (ht : t ∉ X) (htD : t ∉ D) (a : Nat) : cnX (X ++ [t]) (D.take a ++ t :: D.drop a) = (cnX X D).take a ++ 1 :: (cnX X D).drop a := by
  have h1 : ∀ K : List (List Nat), t ∉ K → K.map (fun d => (X ++ [t]).count d) = K.map fun d => X.count d := fun K hK => List.map_congr_left fun d hd => by
    rw [List.count_append, List.count_singleton, if_neg]
    · rfl
    · intro h; have h : t = d := by simpa using h
      subst h; exact hK hd
  unfold cnX
  rw [List.map_append, List.map_cons, h1 _ (fun h => htD (List.mem_of_mem_take h)), h1 _ (fun h => htD (List.mem_of_mem_drop h)), List.map_take, List.map_drop, List.count_append, List.count_eq_zero.2 ht, List.count_singleton]
  simp

/-- One that is there already, at its place. -/
theorem insX_hit {t : List Nat} {D : List (List Nat)} (h : atX t D < D.length ∧ lexL (D.getD (atX t D) []) t = 0) : insX t D = D := if_pos h
theorem insX_new {t : List Nat} {D : List (List Nat)} (h : ¬ (atX t D < D.length ∧ lexL (D.getD (atX t D) []) t = 0)) : insX t D = D.take (atX t D) ++ t :: D.drop (atX t D) := if_neg h
theorem insX_not {t : List Nat} {D : List (List Nat)} (hD : SrtX D) (h : ¬ (atX t D < D.length ∧ lexL (D.getD (atX t D) []) t = 0)) : t ∉ D := by
  intro hm
  obtain ⟨j, hj, e⟩ := List.getElem_of_mem hm
  have hp := List.pairwise_iff_getElem.1 hD
  have hgd : ∀ k, (hk : k < D.length) → D.getD k [] = D[k] := fun k hk => by rw [List.getD_eq_getElem?_getD, List.getElem?_eq_getElem hk]; rfl
  have h1 : atX t D = j := by
    refine (atX_eq (Nat.le_of_lt hj) (fun i hi => ?_) (fun _ => ?_)).symm
    · rw [hgd i (by omega), ← e]; exact hp i j (by omega) hj hi
    · rw [hgd j hj, e]; exact lex_irr t
  exact h ⟨by omega, by rw [h1, hgd j hj, e]; exact lex_eq.2 rfl⟩

/-- In order: only the last one is to be looked at. -/
theorem dL_last {X : List (List Nat)} {t : List Nat} (hs : ∀ x ∈ X, lexL x t ≤ 0) : dL (X ++ [t]) = if dL X ≠ [] ∧ (dL X).getD ((dL X).length - 1) [] = t then dL X else dL X ++ [t] := by
  obtain ⟨h1, h2⟩ := dL_ok X
  have hgd : ∀ k, (hk : k < (dL X).length) → (dL X).getD k [] = (dL X)[k] := fun k hk => by rw [List.getD_eq_getElem?_getD, List.getElem?_eq_getElem hk]; rfl
  have hle : ∀ k, (hk : k < (dL X).length) → lexL ((dL X).getD k []) t ≤ 0 := fun k hk => by
    rw [hgd k hk]; exact hs _ ((h2 _).1 (List.getElem_mem hk))
  have hp := List.pairwise_iff_getElem.1 h1
  rw [dL_snoc]
  by_cases hc : dL X ≠ [] ∧ (dL X).getD ((dL X).length - 1) [] = t
  · rw [if_pos hc]
    obtain ⟨c1, c2⟩ := hc
    have hl : 0 < (dL X).length := List.length_pos_iff.2 c1
    have h3 : atX t (dL X) = (dL X).length - 1 := by
      refine (atX_eq (by omega) (fun j hj => ?_) (fun _ => ?_)).symm
      · have := hp j ((dL X).length - 1) (by omega) (by omega) hj
        rw [hgd j (by omega), ← c2, hgd ((dL X).length - 1) (by omega)]; exact this
      · rw [c2]; exact lex_irr t
    exact insX_hit ⟨by omega, by rw [h3, c2]; exact lex_eq.2 rfl⟩
  · rw [if_neg hc]
    have h3 : atX t (dL X) = (dL X).length := by
      refine (atX_eq (Nat.le_refl _) (fun j hj => ?_) (fun h => absurd h (Nat.lt_irrefl _))).symm
      have h4 := hle j hj
      by_cases e : lexL ((dL X).getD j []) t = 0
      · have e := lex_eq.1 e
        refine absurd ⟨fun h => by rw [h] at hj; simp at hj, ?_⟩ hc
        by_cases ej : j = (dL X).length - 1
        · rw [← ej]; exact e
        · have h5 := hp j ((dL X).length - 1) hj (by omega) (by omega)
          have h6 := hle ((dL X).length - 1) (by omega)
          rw [← hgd j hj, e, ← hgd ((dL X).length - 1) (by omega)] at h5
          rw [lex_anti] at h5
          have h7 : lexL ((dL X).getD ((dL X).length - 1) []) t > 0 := by omega
          omega
      · omega
    rw [insX_new (fun h => by omega), h3, List.take_length, List.drop_length]

end Go.Proofs.Ytaafldclbdlgfaa

/- Types of a group's elements, each once, and how often. -/
namespace Go.Proofs.Ytaafldclbdlgfaa
open Go.RowKit DM
set_option linter.unusedVariables false
set_option linter.unusedSimpArgs false

/-- A list of a group's elements, each once. -/
structure ElOk (N : Nat) (L : List (Nat → Nat)) (E : List (Nat → Nat)) : Prop where
  nodup : E.Nodup
  mem : ∀ r, r ∈ E ↔ Grp N L r
noncomputable def elG (N : Nat) (L : List (Nat → Nat)) : List (Nat → Nat) := @dite _ (∃ E, ElOk N L E) (Classical.propDecidable _) (fun h => Classical.choose h) fun _ => []
theorem ElOk.perm {N : Nat} {L E : List (Nat → Nat)} (h : ElOk N L E) : E.Perm (elG N L) := by
  have h2 : ElOk N L (elG N L) := by
    unfold elG
    rw [dif_pos ⟨E, h⟩]
    exact Classical.choose_spec (⟨E, h⟩ : ∃ E, ElOk N L E)
  classical
  exact (List.perm_ext_iff_of_nodup h.nodup h2.nodup).2 fun r => by rw [h.mem, h2.mem]

theorem els_ok {N : Nat} (hN : N ≤ 16) {L : List (Nat → Nat)} (hL : ∀ g ∈ L, Np N g) {has : Nat → Nat → Bool} {tab : Nat → Nat → Nat → Nat} (hT : TblOk N has tab) (h : ∀ g, Np N g → (InT N has tab N g ↔ Grp N L g)) : ElOk N L (elsE N has tab N) where
  nodup := els_nodup hN hT (Nat.le_refl _)
  mem := fun r => by
    rw [els_mem hN hT (Nat.le_refl _)]
    exact ⟨fun h1 => (h r (InT.np hT (Nat.le_refl _) h1).1).1 h1, fun h1 => (h r (h1.np hL)).2 h1⟩

/-- Types of permutations. -/
def tyL (N : Nat) (E : List (Nat → Nat)) : List (List Nat) := E.map fun p => tyN (cycs p N) N
theorem tyL_len (N : Nat) (E : List (Nat → Nat)) : (tyL N E).length = E.length := by simp [tyL]
theorem tyL_take (N : Nat) (E : List (Nat → Nat)) {i : Nat} (hi : i < E.length) : (tyL N E).take (i + 1) = (tyL N E).take i ++ [tyN (cycs (E.getD i fun _ => 0) N) N] := by
  rw [List.take_add_one, List.getElem?_eq_getElem (by rw [tyL_len]; exact hi), List.getD_eq_getElem?_getD, List.getElem?_eq_getElem hi]
  simp [tyL]
theorem tyN_small {N : Nat} (hN : N ≤ 16) {p : Nat → Nat} (hp : Perm N p) : (tyN (cycs p N) N).length ≤ 16 := by
  rw [tyN_len (cycs_lens hN hp)]
  exact Nat.le_trans (cyTo_len p N) hN
theorem tyL_small {N : Nat} (hN : N ≤ 16) {E : List (Nat → Nat)} (hE : ∀ p ∈ E, Np N p) : ∀ l ∈ tyL N E, l.length ≤ 16 := fun l hl => by
  obtain ⟨p, hp, rfl⟩ := List.mem_map.1 hl
  exact tyN_small hN (hE p hp).perm

noncomputable def etD (N : Nat) (L : List (Nat → Nat)) : List (List Nat) := dL (tyL N (elG N L))
noncomputable def etC (N : Nat) (L : List (Nat → Nat)) : List Nat := cnX (tyL N (elG N L)) (etD N L)
theorem et_of {N : Nat} {L E : List (Nat → Nat)} (h : ElOk N L E) {T : List (List Nat)} (hT : T.Perm (tyL N E)) : dL T = etD N L ∧ cnX T (dL T) = etC N L := by
  have hp : T.Perm (tyL N (elG N L)) := hT.trans (h.perm.map _)
  have e : dL T = etD N L := dL_perm hp
  refine ⟨e, ?_⟩
  unfold etC
  rw [e]
  exact cnX_perm hp _

theorem dL_small {X : List (List Nat)} (h : ∀ l ∈ X, l.length ≤ 16) (j : Nat) : ((dL X).getD j []).length ≤ 16 := by
  rw [List.getD_eq_getElem?_getD]
  by_cases hj : j < (dL X).length
  · rw [List.getElem?_eq_getElem hj]
    exact h _ (((dL_ok X).2 _).1 (List.getElem_mem hj))
  · rw [List.getElem?_eq_none (by omega)]; exact Nat.zero_le _

end Go.Proofs.Ytaafldclbdlgfaa

/- A group has a table; how many elements and types it has at most. -/
namespace Go.Proofs.Ytaafldclbdlgfaa
open Go.RowKit DM
set_option linter.unusedVariables false
set_option linter.unusedSimpArgs false

noncomputable def tabG (N : Nat) (L : List (Nat → Nat)) (i k : Nat) : Nat → Nat :=
  @ite _ (k = i) (Nat.decEq _ _) (sameF N) (@dite _ (∃ g, Grp N L g ∧ (∀ j, j < i → g j = j) ∧ g i = k) (Classical.propDecidable _) (fun h => Classical.choose h) fun _ _ => 0)

theorem tellB_iff {N : Nat} {L : List (Nat → Nat)} {i k : Nat} : tellB N L i k = true ↔ ∃ g, Grp N L g ∧ (∀ j, j < i → g j = j) ∧ g i = k := @decide_eq_true_iff _ (Classical.propDecidable _)

theorem tabG_ok {N : Nat} {L : List (Nat → Nat)} {i k : Nat} (hi : i < N) (h : tellB N L i k = true) : Grp N L (tabG N L i k) ∧ (∀ j, j < i → tabG N L i k j = j) ∧ tabG N L i k i = k := by
  unfold tabG
  by_cases e : k = i
  · rw [if_pos e, e]
    exact ⟨.one, fun j hj => one_at (by omega), one_at hi⟩
  · rw [if_neg e]
    have h := tellB_iff.1 h
    rw [dif_pos h]
    exact Classical.choose_spec h

theorem tblG {N : Nat} {L : List (Nat → Nat)} (hL : ∀ g ∈ L, Np N g) : TblOk N (tellB N L) (tabG N L) where
  diag := fun i hi => ⟨tellB_iff.2 ⟨_, .one, fun j hj => one_at (by omega), one_at hi⟩, by unfold tabG; rw [if_pos rfl]⟩
  lt := fun i k hi h => by
    obtain ⟨g, hg, _, e⟩ := tellB_iff.1 h
    rw [← e]; exact (hg.np hL).perm.lt i hi
  np := fun i k hi h => (tabG_ok hi h).1.np hL
  fix := fun i k hi h => (tabG_ok hi h).2.1
  at_ := fun i k hi h => (tabG_ok hi h).2.2

theorem allG {N : Nat} (hN : N ≤ 16) {L : List (Nat → Nat)} (hL : ∀ g ∈ L, Np N g) : ∀ d, d ≤ N → ∀ g, Grp N L g → (∀ j, j < N - d → g j = j) → InT N (tellB N L) (tabG N L) d g
  | 0, _, g, hg, hf => by
    show g = sameF N
    exact np_ext (hg.np hL) (one_np N) fun i hi => by rw [hf i (by omega), one_at hi]
  | d + 1, hd, g, hg, hf => by
    have hi : N - (d + 1) < N := by omega
    have hh : tellB N L (N - (d + 1)) (g (N - (d + 1))) = true := tellB_iff.2 ⟨g, hg, hf, rfl⟩
    obtain ⟨h1, h2⟩ := left_fix hN (tblG hL) hi (hg.np hL) hf hh
    refine (InT.peel hN (tblG hL) hd).2 ⟨hg.np hL, hh, allG hN hL d (by omega) _ (hg.comp hL ((tabG_ok hi hh).1.inv hN hL)) fun j hj => h2 j (by omega)⟩

theorem elG_ok {N : Nat} (hN : N ≤ 16) {L : List (Nat → Nat)} (hL : ∀ g ∈ L, Np N g) : ElOk N L (elG N L) ∧ (elG N L).length ≤ ordG N L := by
  have hT := tblG (N := N) hL
  have hE : ElOk N L (elsE N (tellB N L) (tabG N L) N) := els_ok hN hL hT fun g hg => ⟨fun h => InT.grp hT hL (fun i k hi h => (tabG_ok hi h).1) (Nat.le_refl _) h, fun h => allG hN hL N (Nat.le_refl _) g h fun j hj => absurd hj (by omega)⟩
  have hp := hE.perm
  refine ⟨⟨hp.nodup_iff.1 hE.nodup, fun r => by rw [← hp.mem_iff]; exact hE.mem r⟩, ?_⟩
  rw [← hp.length_eq]
  have := els_le hN hT (Nat.le_refl N)
  rw [hT.ord16 hN] at this
  exact this

theorem etD_le {N : Nat} (hN : N ≤ 16) {L : List (Nat → Nat)} (hL : ∀ g ∈ L, Np N g) : (etD N L).length ≤ ordG N L := by
  have h1 := dL_len (tyL N (elG N L))
  rw [tyL_len] at h1
  exact Nat.le_trans h1 (elG_ok hN hL).2
theorem etD_small {N : Nat} (hN : N ≤ 16) {L : List (Nat → Nat)} (hL : ∀ g ∈ L, Np N g) (j : Nat) : ((etD N L).getD j []).length ≤ 16 :=
  dL_small (tyL_small hN fun p hp => (((elG_ok hN hL).1.mem p).1 hp).np hL) j
end Go.Proofs.Ytaafldclbdlgfaa
