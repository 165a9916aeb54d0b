import Derived.Test.YtakpeibmaejmeaaL15
import Derived.Test.YtakpeibmaejmeaaX34
import Derived.Test.YtakpeibmaejmeaaX45
/- Queues, names and morphisms: isomorphisms are told by names. -/
namespace Go.Proofs.Ytakpeibmaejmeaa
open Go.RowKit DM
set_option linter.unusedVariables false
set_option linter.unusedSimpArgs false

/-- Closed under both. -/
def Cl (n : Nat) (p q : Nat → Nat) (S : Nat → Prop) : Prop := ∀ z, z < n → S z → S (p z) ∧ S (q z)

structure QB (n x0 : Nat) (p q : Nat → Nat) (s : List Nat × (Nat → Bool)) : Prop where
  nodup : s.1.Nodup
  met : ∀ z, s.2 z = true ↔ z ∈ s.1
  min : ∀ S : Nat → Prop, S x0 → Cl n p q S → ∀ z ∈ s.1, S z
  head : ∃ l, s.1 = x0 :: l

theorem QB.add {n x0 : Nat} {p q : Nat → Nat} {s : List Nat × (Nat → Bool)} (h : QB n x0 p q s) {t : Nat} (ht : ∀ S : Nat → Prop, S x0 → Cl n p q S → S t) : QB n x0 p q (bst t s) ∧ t ∈ (bst t s).1 := by
  unfold bst
  cases hm : s.2 t with
  | true => exact ⟨h, (h.met t).1 hm⟩
  | false =>
    have hn : t ∉ s.1 := fun hc => by rw [(h.met t).2 hc] at hm; cases hm
    refine ⟨⟨?_, ?_, ?_, ?_⟩, by simp⟩
    · simp only [cond_false]
      exact List.nodup_append.2 ⟨h.nodup, by simp, fun a ha b hb e => by simp at hb; subst hb; subst e; exact hn ha⟩
    · intro z
      simp only [cond_false, up, List.mem_append, List.mem_singleton]
      by_cases e : z = t
      · subst e; simp
      · rw [if_neg e]; simp [h.met z, e]
    · intro S h0 hc z hz
      simp only [cond_false, List.mem_append, List.mem_singleton] at hz
      rcases hz with hz | rfl
      · exact h.min S h0 hc z hz
      · exact ht S h0 hc
    · obtain ⟨l, e⟩ := h.head
      exact ⟨l ++ [t], by simp [e]⟩

theorem brun_q {n : Nat} (hn : n ≤ 16) {p q : Nat → Nat} (hp : ∀ i, i < n → p i < n) (hq : ∀ i, i < n → q i < n) {x0 : Nat} : ∀ (k i : Nat) (s : List Nat × (Nat → Bool)), BInv n s → bmu i s ≤ k → i ≤ s.1.length → QB n x0 p q s → (∀ j, j < i → p (s.1.getD j 0) ∈ s.1 ∧ q (s.1.getD j 0) ∈ s.1) → QB n x0 p q (brun p q k i s) ∧ ∀ z ∈ (brun p q k i s).1, p z ∈ (brun p q k i s).1 ∧ q z ∈ (brun p q k i s).1
  | 0, i, s, hI, hk, hi, hQ, hc => by
    refine ⟨hQ, fun z hz => ?_⟩
    simp only [brun] at hz ⊢
    obtain ⟨t, ht, rfl⟩ := mem_getD hz
    have : s.1.length ≤ i := by unfold bmu at hk; omega
    exact hc t (by omega)
  | k + 1, i, s, hI, hk, hi, hQ, hc => by
    simp only [brun]
    split
    · rename_i h
      have hx := hI.get h
      have hm := getD_mem h
      obtain ⟨g1, g2⟩ := bmu_round hn hp hq hI h
      obtain ⟨a1, a2⟩ := hQ.add (t := p (s.1.getD i 0)) fun S h0 hcl => (hcl _ hx (hQ.min S h0 hcl _ hm)).1
      obtain ⟨a3, a4⟩ := a1.add (t := q (s.1.getD i 0)) fun S h0 hcl => (hcl _ hx (hQ.min S h0 hcl _ hm)).2
      have p1 := bst_pre (p (s.1.getD i 0)) s
      have p2 := bst_pre (q (s.1.getD i 0)) (bst (p (s.1.getD i 0)) s)
      have p3 := p1.trans p2
      have hl := p3.length_le
      refine brun_q hn hp hq k (i + 1) _ g1 (by omega) (by omega) a3 fun j hj => ?_
      rcases Nat.lt_succ_iff_lt_or_eq.1 hj with hj | rfl
      · rw [pre_getD p3 (by omega)]
        exact ⟨p3.subset (hc j hj).1, p3.subset (hc j hj).2⟩
      · rw [pre_getD p3 h]
        exact ⟨p2.subset a2, a4⟩
    · rename_i h
      refine ⟨hQ, fun z hz => ?_⟩
      obtain ⟨t, ht, rfl⟩ := mem_getD hz
      exact hc t (by omega)

theorem bx_q {n x : Nat} {p q : Nat → Nat} : QB n x p q (bx x) where
  nodup := by simp [bx]
  met z := by
    simp only [bx, up, List.mem_singleton]
    by_cases e : z = x
    · subst e; simp
    · simp [e]
  min S h0 hc z hz := by simp only [bx, List.mem_singleton] at hz; subst hz; exact h0
  head := ⟨[], rfl⟩

theorem bfs_q {n : Nat} (hn : n ≤ 16) {p q : Nat → Nat} (hp : ∀ i, i < n → p i < n) (hq : ∀ i, i < n → q i < n) {x : Nat} (hx : x < n) : QB n x p q (bres p q 0 (bx x)) ∧ ∀ z ∈ bfsF p q x, p z ∈ bfsF p q x ∧ q z ∈ bfsF p q x :=
  brun_q hn hp hq _ 0 (bx x) (bx_inv hx hn) (Nat.le_refl _) (Nat.zero_le _) bx_q fun j hj => absurd hj (Nat.not_lt_zero _)

theorem nodup_sub : ∀ (l k : List Nat), l.Nodup → (∀ x ∈ l, x ∈ k) → l.length ≤ k.length
  | [], _, _, _ => Nat.zero_le _
  | a :: l, k, hd, h => by
    have ha : a ∈ k := h a (by simp)
    have hd' := List.nodup_cons.1 hd
    have h1 := nodup_sub l (k.erase a) hd'.2 fun x hx => (List.mem_erase_of_ne (a := x) (b := a) fun e => hd'.1 (e ▸ hx)).2 (h x (by simp [hx]))
    have h2 := List.length_erase_of_mem ha
    have h3 : 0 < k.length := List.length_pos_of_mem ha
    simp only [List.length_cons]
    omega

theorem nodup_all {l : List Nat} {n : Nat} (hd : l.Nodup) (hl : ∀ x ∈ l, x < n) (he : l.length = n) {x : Nat} (hx : x < n) : x ∈ l := by
  refine Classical.byContradiction fun h => ?_
  have := nodup_len n (x :: l) (List.nodup_cons.2 ⟨h, hd⟩) fun y hy => by
    rcases List.mem_cons.1 hy with rfl | hy
    · exact hx
    · exact hl y hy
  simp only [List.length_cons] at this
  omega

theorem nodup_maps {l : List Nat} {f : Nat → Nat} (hd : l.Nodup) (h : ∀ x ∈ l, ∀ y ∈ l, f x = f y → x = y) : (l.map f).Nodup := by
  unfold List.Nodup at *
  rw [List.pairwise_map]
  refine List.Pairwise.imp_of_mem ?_ hd
  intro a b ha hb hne e
  exact hne (h a ha b hb e)

/-- A closed list holds with p x also x. -/
theorem perm_into {n : Nat} {p : Nat → Nat} (hp : Perm n p) {G : List Nat} (hd : G.Nodup) (hl : ∀ z ∈ G, z < n) (hc : ∀ z ∈ G, p z ∈ G) {z : Nat} (hz : z < n) (h : p z ∈ G) : z ∈ G := by
  refine Classical.byContradiction fun hn => ?_
  have h1 : (p z :: G.map p).Nodup := by
    refine List.nodup_cons.2 ⟨fun hm => ?_, nodup_maps hd fun x hx y hy e => hp.inj x y (hl x hx) (hl y hy) e⟩
    obtain ⟨u, hu, e⟩ := List.mem_map.1 hm
    exact hn (hp.inj u z (hl u hu) hz e ▸ hu)
  have := nodup_sub _ G h1 fun x hx => by
    rcases List.mem_cons.1 hx with rfl | hx
    · exact h
    · obtain ⟨u, hu, rfl⟩ := List.mem_map.1 hx
      exact hc u hu
  simp at this
  omega

/-- From each number all are reached. -/
theorem bfs_all {N : Nat} {b w : Nat → Nat} (hD : Des N b w) {y : Nat} (hy : y < N) : (bfsF b w y).Nodup ∧ (∀ z ∈ bfsF b w y, z < N) ∧ (bfsF b w y).length = N ∧ (∀ z, z < N → z ∈ bfsF b w y) ∧ (bfsF b w y).getD 0 0 = y := by
  have hp0 : 0 < N := hD.pos
  obtain ⟨q0, c0⟩ := bfs_q hD.le hD.pb.lt hD.pw.lt hp0
  obtain ⟨q1, c1⟩ := bfs_q hD.le hD.pb.lt hD.pw.lt hy
  have s0 : ∀ z ∈ bfsF b w 0, z < N := (bfsF_inv hD.le hD.pb.lt hD.pw.lt hp0).small
  have s1 : ∀ z ∈ bfsF b w y, z < N := (bfsF_inv hD.le hD.pb.lt hD.pw.lt hy).small
  have a0 : ∀ z, z < N → z ∈ bfsF b w 0 := fun z hz => nodup_all q0.nodup s0 hD.all hz
  have m0 : ∀ S : Nat → Prop, S 0 → Cl N b w S → ∀ z ∈ bfsF b w 0, S z := q0.min
  have d1 : (bfsF b w y).Nodup := q1.nodup
  have hh : ∃ l, bfsF b w y = y :: l := q1.head
  have hym : y ∈ bfsF b w y := by obtain ⟨l, e⟩ := hh; rw [e]; simp
  have hz0 : 0 ∈ bfsF b w y := by
    refine Classical.byContradiction fun h => ?_
    refine m0 (fun z => z ∉ bfsF b w y) h (fun z hz hn => ⟨fun hm => hn ?_, fun hm => hn ?_⟩) y (a0 y hy) hym
    · exact perm_into hD.pb d1 s1 (fun u hu => (c1 u hu).1) hz hm
    · exact perm_into hD.pw d1 s1 (fun u hu => (c1 u hu).2) hz hm
  have a1 : ∀ z, z < N → z ∈ bfsF b w y := fun z hz => m0 (fun z => z ∈ bfsF b w y) hz0 (fun u _ hu => c1 u hu) z (a0 z hz)
  refine ⟨d1, s1, ?_, a1, ?_⟩
  · have h1 := nodup_len N _ d1 s1
    have h2 := nodup_sub (List.range N) (bfsF b w y) List.nodup_range fun x hx => a1 x (List.mem_range.1 hx)
    rw [List.length_range] at h2
    omega
  · obtain ⟨l, e⟩ := hh; rw [e]; rfl

theorem nmTo_at {F : List Nat} (hd : F.Nodup) : ∀ k, k ≤ F.length → ∀ j, j < k → nmTo F k (F.getD j 0) = j
  | 0, _, j, h => absurd h (Nat.not_lt_zero _)
  | k + 1, hk, j, h => by
    simp only [nmTo, up]
    by_cases e : j = k
    · subst e; rw [if_pos rfl]
    · rw [if_neg fun e2 => e (nodup_getD hd (by omega) (by omega) e2)]
      exact nmTo_at hd k (by omega) j (by omega)

theorem name_at {N : Nat} {b w : Nat → Nat} (hD : Des N b w) {y : Nat} (hy : y < N) {k : Nat} (hk : k < N) : nameF b w y ((bfsF b w y).getD k 0) = k := by
  obtain ⟨h1, h2, h3, h4, h5⟩ := bfs_all hD hy
  unfold nameF
  exact nmTo_at h1 _ (Nat.le_refl _) k (by omega)

theorem name_get {N : Nat} {b w : Nat → Nat} (hD : Des N b w) {y : Nat} (hy : y < N) {i : Nat} (hi : i < N) : nameF b w y i < N ∧ (bfsF b w y).getD (nameF b w y i) 0 = i := by
  obtain ⟨h1, h2, h3, h4, h5⟩ := bfs_all hD hy
  obtain ⟨t, ht, rfl⟩ := mem_getD (h4 i hi)
  rw [name_at hD hy (by omega)]
  exact ⟨by omega, rfl⟩

theorem name_perm {N : Nat} {b w : Nat → Nat} (hD : Des N b w) {y : Nat} (hy : y < N) : Perm N (nameF b w y) := by
  refine ⟨fun i hi => (name_get hD hy hi).1, fun i j hi hj e => ?_⟩
  have h1 := (name_get hD hy hi).2
  have h2 := (name_get hD hy hj).2
  rw [← h1, ← h2, e]

/-- A map carries one queue over to another. -/
def Carry (n : Nat) (f : Nat → Nat) (s s' : List Nat × (Nat → Bool)) : Prop := s'.1 = s.1.map f ∧ ∀ x, x < n → s'.2 (f x) = s.2 x

theorem Carry.add {n : Nat} {f : Nat → Nat} (hf : ∀ x y, x < n → y < n → f x = f y → x = y) {s s' : List Nat × (Nat → Bool)} (h : Carry n f s s') {t : Nat} (ht : t < n) : Carry n f (bst t s) (bst (f t) s') := by
  unfold bst
  rw [h.2 t ht]
  cases hm : s.2 t with
  | true => exact h
  | false =>
    refine ⟨by simp [h.1], fun x hx => ?_⟩
    simp only [cond_false, up]
    by_cases e : x = t
    · subst e; simp
    · rw [if_neg e, if_neg fun e2 => e (hf x t hx ht e2)]
      exact h.2 x hx

theorem getD_map {f : Nat → Nat} {l : List Nat} {i : Nat} (hi : i < l.length) : (l.map f).getD i 0 = f (l.getD i 0) := by
  simp [List.getD_eq_getElem?_getD, List.getElem?_eq_getElem hi]

theorem Carry.run {n : Nat} (hn : n ≤ 16) {b w b' w' f : Nat → Nat} (hb : ∀ i, i < n → b i < n) (hw : ∀ i, i < n → w i < n) (hf : ∀ x y, x < n → y < n → f x = f y → x = y) (he : ∀ x, x < n → f (b x) = b' (f x) ∧ f (w x) = w' (f x)) : ∀ (k i : Nat) (s s' : List Nat × (Nat → Bool)), BInv n s → Carry n f s s' → Carry n f (brun b w k i s) (brun b' w' k i s')
  | 0, _, _, _, _, h => h
  | k + 1, i, s, s', hI, h => by
    simp only [brun]
    have hl : s'.1.length = s.1.length := by rw [h.1, List.length_map]
    by_cases hi : i < s.1.length
    · have hx := hI.get hi
      rw [if_pos hi, if_pos (by omega)]
      rw [h.1, getD_map hi, ← (he _ hx).1, ← (he _ hx).2]
      refine Carry.run hn hb hw hf he k (i + 1) _ _ (bmu_round hn hb hw hI hi).1 ?_
      exact (h.add hf (hb _ hx)).add hf (hw _ hx)
    · rw [if_neg hi, if_neg (by omega)]
      exact h

theorem bfs_map {n M : Nat} (hn : n ≤ 16) (hM : M ≤ 16) {b w b' w' f : Nat → Nat} (hb : ∀ i, i < n → b i < n) (hw : ∀ i, i < n → w i < n) (hb' : ∀ i, i < M → b' i < M) (hw' : ∀ i, i < M → w' i < M) (hf : ∀ x y, x < n → y < n → f x = f y → x = y) (hfM : ∀ x, x < n → f x < M) (he : ∀ x, x < n → f (b x) = b' (f x) ∧ f (w x) = w' (f x)) {x : Nat} (hx : x < n) : bfsF b' w' (f x) = (bfsF b w x).map f := by
  have h1 := brun_more hn hb hw (bmu 0 (bx x)) (bmu 0 (bx x) + bmu 0 (bx (f x))) 0 (bx x) (bx_inv hx hn) (Nat.le_refl _) (by omega)
  have h2 := brun_more hM hb' hw' (bmu 0 (bx (f x))) (bmu 0 (bx x) + bmu 0 (bx (f x))) 0 (bx (f x)) (bx_inv (hfM x hx) hM) (Nat.le_refl _) (by omega)
  have h3 := Carry.run hn hb hw hf he (bmu 0 (bx x) + bmu 0 (bx (f x))) 0 (bx x) (bx (f x)) (bx_inv hx hn) ⟨rfl, fun z hz => by
    simp only [bx, up]
    by_cases e : z = x
    · subst e; simp
    · rw [if_neg e, if_neg fun e2 => e (hf z x hz hx e2)]⟩
  unfold bfsF bres
  rw [h1, h2, h3.1]

end Go.Proofs.Ytakpeibmaejmeaa
