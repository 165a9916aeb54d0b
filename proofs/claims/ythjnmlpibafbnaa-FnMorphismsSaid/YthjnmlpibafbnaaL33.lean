import Derived.Test.YthjnmlpibafbnaaL21
import Derived.Test.YthjnmlpibafbnaaX34
import Derived.Test.YthjnmlpibafbnaaL3
namespace Go.Proofs.Ythjnmlpibafbnaa
open Go.RowKit DM
set_option linter.unusedVariables false
set_option linter.unusedSimpArgs false
def imgTo (p : Nat → Nat) (S : Nat) : Nat → Nat
  | 0 => 0
  | k + 1 => bif S.testBit k then imgTo p S k ||| 2 ^ p k else imgTo p S k
theorem imgTo_bit {p : Nat → Nat} {S y : Nat} : ∀ k, (imgTo p S k).testBit y = true ↔ ∃ x, x < k ∧ S.testBit x = true ∧ p x = y
  | 0 => by simp [imgTo]
  | k + 1 => by
    have ih := imgTo_bit (p := p) (S := S) (y := y) k
    simp only [imgTo]
    cases hk : S.testBit k with
    | false =>
      rw [cond_false, ih]
      constructor
      · rintro ⟨x, h1, h2⟩; exact ⟨x, by omega, h2⟩
      · rintro ⟨x, h1, h2, h3⟩
        have : x ≠ k := fun e => by subst e; rw [hk] at h2; cases h2
        exact ⟨x, by omega, h2, h3⟩
    | true =>
      rw [cond_true, Nat.testBit_or, Bool.or_eq_true, ih, Nat.testBit_two_pow]
      constructor
      · rintro (⟨x, h1, h2⟩ | h)
        · exact ⟨x, by omega, h2⟩
        · exact ⟨k, by omega, hk, of_decide_eq_true h⟩
      · rintro ⟨x, h1, h2, h3⟩
        by_cases e : x = k
        · subst e; exact .inr (decide_eq_true h3)
        · exact .inl ⟨x, by omega, h2, h3⟩
def img (p : Nat → Nat) (N S : Nat) : Nat := imgTo p S N
def Low (N S : Nat) : Prop := ∀ x, S.testBit x = true → x < N
theorem img_low {N : Nat} {p : Nat → Nat} (hp : ∀ i, i < N → p i < N) (S : Nat) : Low N (img p N S) := fun y hy => by
  obtain ⟨x, h1, _, rfl⟩ := (imgTo_bit N).1 hy
  exact hp x h1
theorem bits_ext {S T : Nat} (h : ∀ x, S.testBit x = true ↔ T.testBit x = true) : S = T := Nat.eq_of_testBit_eq fun i => by
  have := h i
  cases e : S.testBit i <;> cases e' : T.testBit i
  · rfl
  · rw [this.2 e'] at e; cases e
  · rw [this.1 e] at e'; cases e'
  · rfl
theorem img_one {N S : Nat} (h : Low N S) : img (sameF N) N S = S := bits_ext fun y => by
  unfold img
  rw [imgTo_bit]
  constructor
  · rintro ⟨x, h1, h2, rfl⟩; rw [one_at h1]; exact h2
  · intro hy; exact ⟨y, h y hy, hy, one_at (h y hy)⟩
theorem img_mul {N : Nat} {p q : Nat → Nat} (hp : Np N p) (S : Nat) : img (mulF N p q) N S = img q N (img p N S) := bits_ext fun y => by
  unfold img
  rw [imgTo_bit, imgTo_bit]
  constructor
  · rintro ⟨x, h1, h2, rfl⟩
    rw [mul_at h1]
    exact ⟨p x, hp.perm.lt x h1, (imgTo_bit N).2 ⟨x, h1, h2, rfl⟩, rfl⟩
  · rintro ⟨z, h1, h2, rfl⟩
    obtain ⟨x, h3, h4, rfl⟩ := (imgTo_bit N).1 h2
    exact ⟨x, h3, h4, mul_at h3⟩
def Orb (N : Nat) (L : List (Nat → Nat)) (B S : Nat) : Prop := ∃ g, Grp N L g ∧ S = img g N B
def Meet (S T : Nat) : Prop := ∃ x, S.testBit x = true ∧ T.testBit x = true
def Blk (N : Nat) (L : List (Nat → Nat)) (B : Nat) : Prop := ∀ S T, Orb N L B S → Orb N L B T → Meet S T → S = T
section
variable {N : Nat} {L : List (Nat → Nat)} {B : Nat}
theorem Orb.base (h : Low N B) : Orb N L B B := ⟨sameF N, .one, (img_one h).symm⟩
theorem Orb.step (hL : ∀ g ∈ L, Np N g) {S : Nat} (h : Orb N L B S) {p : Nat → Nat} (hp : p ∈ L) : Orb N L B (img p N S) := by
  obtain ⟨g, h1, rfl⟩ := h
  exact ⟨mulF N g p, .mul h1 hp, (img_mul (h1.np hL) B).symm⟩
theorem Orb.low (hL : ∀ g ∈ L, Np N g) {S : Nat} (h : Orb N L B S) : Low N S := by
  obtain ⟨g, h1, rfl⟩ := h
  exact img_low (h1.np hL).perm.lt B
theorem Orb.some (hL : ∀ g ∈ L, Np N g) (hB : ∃ x, x < N ∧ B.testBit x = true) {S : Nat} (h : Orb N L B S) : ∃ x, S.testBit x = true := by
  obtain ⟨g, h1, rfl⟩ := h
  obtain ⟨x, h2, h3⟩ := hB
  exact ⟨g x, (imgTo_bit N).2 ⟨x, h2, h3, rfl⟩⟩
theorem orb_in (hL : ∀ g ∈ L, Np N g) (hB : Low N B) {P : Nat → Prop} (h0 : P B) (hc : ∀ S, P S → ∀ p ∈ L, P (img p N S)) {S : Nat} (h : Orb N L B S) : P S := by
  obtain ⟨g, h1, rfl⟩ := h
  induction h1 with
  | one => rw [img_one hB]; exact h0
  | mul h2 hm ih => rw [img_mul (h2.np hL)]; exact hc _ ih _ hm
theorem blk_of (hL : ∀ g ∈ L, Np N g) (hB : Low N B) {P : Nat → Prop} (h0 : P B) (hc : ∀ S, P S → ∀ p ∈ L, P (img p N S)) (hd : ∀ S T, P S → P T → Meet S T → S = T) : Blk N L B :=
  fun S T hS hT => hd S T (orb_in hL hB h0 hc hS) (orb_in hL hB h0 hc hT)
end
end Go.Proofs.Ythjnmlpibafbnaa
namespace Go.Proofs.Ythjnmlpibafbnaa
open Go.RowKit DM
set_option linter.unusedVariables false
set_option linter.unusedSimpArgs false
def Cl (n : Nat) (p q : Nat → Nat) (S : Nat → Prop) : Prop := ∀ z, z < n → S z → S (p z) ∧ S (q z)
structure QB (n x0 : Nat) (p q : Nat → Nat) (s : List Nat × (Nat → Bool)) : Prop where
  nodup : s.1.Nodup
  met : ∀ z, s.2 z = true ↔ z ∈ s.1
  min : ∀ S : Nat → Prop, S x0 → Cl n p q S → ∀ z ∈ s.1, S z
  head : ∃ l, s.1 = x0 :: l
theorem QB.add {n x0 : Nat} {p q : Nat → Nat} {s : List Nat × (Nat → Bool)} (h : QB n x0 p q s) {t : Nat} (ht : ∀ S : Nat → Prop, S x0 → Cl n p q S → S t) : QB n x0 p q (bst t s) ∧ t ∈ (bst t s).1 := by
  unfold bst
  cases hm : s.2 t with
  | true => exact ⟨h, (h.met t).1 hm⟩
  | false =>
    have hn : t ∉ s.1 := fun hc => by rw [(h.met t).2 hc] at hm; cases hm
    refine ⟨⟨?_, ?_, ?_, ?_⟩, by simp⟩
    · simp only [cond_false]
      exact List.nodup_append.2 ⟨h.nodup, by simp, fun a ha b hb e => by simp at hb; subst hb; subst e; exact hn ha⟩
    · intro z
      simp only [cond_false, up, List.mem_append, List.mem_singleton]
      by_cases e : z = t
      · subst e; simp
      · rw [if_neg e]; simp [h.met z, e]
    · intro S h0 hc z hz
      simp only [cond_false, List.mem_append, List.mem_singleton] at hz
      rcases hz with hz | rfl
      · exact h.min S h0 hc z hz
      · exact ht S h0 hc
    · obtain ⟨l, e⟩ := h.head
      exact ⟨l ++ [t], by simp [e]⟩
theorem brun_q {n : Nat} (hn : n ≤ 16) {p q : Nat → Nat} (hp : ∀ i, i < n → p i < n) (hq : ∀ i, i < n → q i < n) {x0 : Nat} : ∀ (k i : Nat) (s : List Nat × (Nat → Bool)), BInv n s → bmu i s ≤ k → i ≤ s.1.length → QB n x0 p q s → (∀ j, j < i → p (s.1.getD j 0) ∈ s.1 ∧ q (s.1.getD j 0) ∈ s.1) → QB n x0 p q (brun p q k i s) ∧ ∀ z ∈ (brun p q k i s).1, p z ∈ (brun p q k i s).1 ∧ q z ∈ (brun p q k i s).1
  | 0, i, s, hI, hk, hi, hQ, hc => by
    refine ⟨hQ, fun z hz => ?_⟩
    simp only [brun] at hz ⊢
    obtain ⟨t, ht, rfl⟩ := mem_getD hz
    have : s.1.length ≤ i := by unfold bmu at hk; omega
    exact hc t (by omega)
  | k + 1, i, s, hI, hk, hi, hQ, hc => by
    simp only [brun]
    split
    · rename_i h
      have hx := hI.get h
      have hm := getD_mem h
      obtain ⟨g1, g2⟩ := bmu_round hn hp hq hI h
      obtain ⟨a1, a2⟩ := hQ.add (t := p (s.1.getD i 0)) fun S h0 hcl => (hcl _ hx (hQ.min S h0 hcl _ hm)).1
      obtain ⟨a3, a4⟩ := a1.add (t := q (s.1.getD i 0)) fun S h0 hcl => (hcl _ hx (hQ.min S h0 hcl _ hm)).2
      have p1 := bst_pre (p (s.1.getD i 0)) s
      have p2 := bst_pre (q (s.1.getD i 0)) (bst (p (s.1.getD i 0)) s)
      have p3 := p1.trans p2
      have hl := p3.length_le
      refine brun_q hn hp hq k (i + 1) _ g1 (by omega) (by omega) a3 fun j hj => ?_
      rcases Nat.lt_succ_iff_lt_or_eq.1 hj with hj | rfl
      · rw [pre_getD p3 (by omega)]
        exact ⟨p3.subset (hc j hj).1, p3.subset (hc j hj).2⟩
      · rw [pre_getD p3 h]
        exact ⟨p2.subset a2, a4⟩
    · rename_i h
      refine ⟨hQ, fun z hz => ?_⟩
      obtain ⟨t, ht, rfl⟩ := mem_getD hz
      exact hc t (by omega)
theorem bx_q {n x : Nat} {p q : Nat → Nat} : QB n x p q (bx x) where
  nodup := by simp [bx]
  met z := by
    simp only [bx, up, List.mem_singleton]
    by_cases e : z = x
    · subst e; simp
    · simp [e]
  min S h0 hc z hz := by simp only [bx, List.mem_singleton] at hz; subst hz; exact h0
  head := ⟨[], rfl⟩
theorem bfs_q {n : Nat} (hn : n ≤ 16) {p q : Nat → Nat} (hp : ∀ i, i < n → p i < n) (hq : ∀ i, i < n → q i < n) {x : Nat} (hx : x < n) : QB n x p q (bres p q 0 (bx x)) ∧ ∀ z ∈ bfsF p q x, p z ∈ bfsF p q x ∧ q z ∈ bfsF p q x :=
  brun_q hn hp hq _ 0 (bx x) (bx_inv hx hn) (Nat.le_refl _) (Nat.zero_le _) bx_q fun j hj => absurd hj (Nat.not_lt_zero _)
theorem nodup_sub : ∀ (l k : List Nat), l.Nodup → (∀ x ∈ l, x ∈ k) → l.length ≤ k.length
  | [], _, _, _ => Nat.zero_le _
  | a :: l, k, hd, h => by
    have ha : a ∈ k := h a (by simp)
    have hd' := List.nodup_cons.1 hd
    have h1 := nodup_sub l (k.erase a) hd'.2 fun x hx => (List.mem_erase_of_ne (a := x) (b := a) fun e => hd'.1 (e ▸ hx)).2 (h x (by simp [hx]))
    have h2 := List.length_erase_of_mem ha
    have h3 : 0 < k.length := List.length_pos_of_mem ha
    simp only [List.length_cons]
    omega
theorem nodup_all {l : List Nat} {n : Nat} (hd : l.Nodup) (hl : ∀ x ∈ l, x < n) (he : l.length = n) {x : Nat} (hx : x < n) : x ∈ l := by
  refine Classical.byContradiction fun h => ?_
  have := nodup_len n (x :: l) (List.nodup_cons.2 ⟨h, hd⟩) fun y hy => by
    rcases List.mem_cons.1 hy with rfl | hy
    · exact hx
    · exact hl y hy
  simp only [List.length_cons] at this
  omega
theorem nodup_maps {l : List Nat} {f : Nat → Nat} (hd : l.Nodup) (h : ∀ x ∈ l, ∀ y ∈ l, f x = f y → x = y) : (l.map f).Nodup := by
  unfold List.Nodup at *
  rw [List.pairwise_map]
  refine List.Pairwise.imp_of_mem ?_ hd
  intro a b ha hb hne e
  exact hne (h a ha b hb e)
theorem perm_into {n : Nat} {p : Nat → Nat} (hp : Perm n p) {G : List Nat} (hd : G.Nodup) (hl : ∀ z ∈ G, z < n) (hc : ∀ z ∈ G, p z ∈ G) {z : Nat} (hz : z < n) (h : p z ∈ G) : z ∈ G := by
  refine Classical.byContradiction fun hn => ?_
  have h1 : (p z :: G.map p).Nodup := by
    refine List.nodup_cons.2 ⟨fun hm => ?_, nodup_maps hd fun x hx y hy e => hp.inj x y (hl x hx) (hl y hy) e⟩
    obtain ⟨u, hu, e⟩ := List.mem_map.1 hm
    exact hn (hp.inj u z (hl u hu) hz e ▸ hu)
  have := nodup_sub _ G h1 fun x hx => by
    rcases List.mem_cons.1 hx with rfl | hx
    · exact h
    · obtain ⟨u, hu, rfl⟩ := List.mem_map.1 hx
      exact hc u hu
  simp at this
  omega
theorem bfs_all {N : Nat} {b w : Nat → Nat} (hD : Des N b w) {y : Nat} (hy : y < N) : (bfsF b w y).Nodup ∧ (∀ z ∈ bfsF b w y, z < N) ∧ (bfsF b w y).length = N ∧ (∀ z, z < N → z ∈ bfsF b w y) ∧ (bfsF b w y).getD 0 0 = y := by
  have hp0 : 0 < N := hD.pos
  obtain ⟨q0, c0⟩ := bfs_q hD.le hD.pb.lt hD.pw.lt hp0
  obtain ⟨q1, c1⟩ := bfs_q hD.le hD.pb.lt hD.pw.lt hy
  have s0 : ∀ z ∈ bfsF b w 0, z < N := (bfsF_inv hD.le hD.pb.lt hD.pw.lt hp0).small
  have s1 : ∀ z ∈ bfsF b w y, z < N := (bfsF_inv hD.le hD.pb.lt hD.pw.lt hy).small
  have a0 : ∀ z, z < N → z ∈ bfsF b w 0 := fun z hz => nodup_all q0.nodup s0 hD.all hz
  have m0 : ∀ S : Nat → Prop, S 0 → Cl N b w S → ∀ z ∈ bfsF b w 0, S z := q0.min
  have d1 : (bfsF b w y).Nodup := q1.nodup
  have hh : ∃ l, bfsF b w y = y :: l := q1.head
  have hym : y ∈ bfsF b w y := by obtain ⟨l, e⟩ := hh; rw [e]; simp
  have hz0 : 0 ∈ bfsF b w y := by
    refine Classical.byContradiction fun h => ?_
    refine m0 (fun z => z ∉ bfsF b w y) h (fun z hz hn => ⟨fun hm => hn ?_, fun hm => hn ?_⟩) y (a0 y hy) hym
    · exact perm_into hD.pb d1 s1 (fun u hu => (c1 u hu).1) hz hm
    · exact perm_into hD.pw d1 s1 (fun u hu => (c1 u hu).2) hz hm
  have a1 : ∀ z, z < N → z ∈ bfsF b w y := fun z hz => m0 (fun z => z ∈ bfsF b w y) hz0 (fun u _ hu => c1 u hu) z (a0 z hz)
  refine ⟨d1, s1, ?_, a1, ?_⟩
  · have h1 := nodup_len N _ d1 s1
    have h2 := nodup_sub (List.range N) (bfsF b w y) List.nodup_range fun x hx => a1 x (List.mem_range.1 hx)
    rw [List.length_range] at h2
    omega
  · obtain ⟨l, e⟩ := hh; rw [e]; rfl
end Go.Proofs.Ythjnmlpibafbnaa
namespace Go.Proofs.Ythjnmlpibafbnaa
open Go.RowKit DM
set_option linter.unusedVariables false
set_option linter.unusedSimpArgs false
theorem apart_len {N : Nat} : ∀ (l : List Nat), (∀ S ∈ l, ∃ x, x < N ∧ S.testBit x = true) → l.Pairwise (fun S T => ¬ Meet S T) → ∃ r : List Nat, r.length = l.length ∧ r.Nodup ∧ (∀ x ∈ r, x < N) ∧ ∀ x ∈ r, ∃ S ∈ l, S.testBit x = true
  | [], _, _ => ⟨[], rfl, .nil, fun _ h => absurd h List.not_mem_nil, fun _ h => absurd h List.not_mem_nil⟩
  | S :: l, h, hp => by
    obtain ⟨r, h1, h2, h3, h4⟩ := apart_len l (fun T hT => h T (.tail _ hT)) hp.of_cons
    obtain ⟨x, h5, h6⟩ := h S (.head _)
    refine ⟨x :: r, by simp [h1], List.nodup_cons.2 ⟨fun hx => ?_, h2⟩, fun y hy => ?_, fun y hy => ?_⟩
    · obtain ⟨T, hT, h7⟩ := h4 x hx
      exact (List.pairwise_cons.1 hp).1 T hT ⟨x, h6, h7⟩
    · rcases List.mem_cons.1 hy with rfl | hy
      · exact h5
      · exact h3 y hy
    · rcases List.mem_cons.1 hy with rfl | hy
      · exact ⟨S, .head _, h6⟩
      · obtain ⟨T, hT, h7⟩ := h4 y hy
        exact ⟨T, .tail _ hT, h7⟩
theorem apart_le {N : Nat} {l : List Nat} (h : ∀ S ∈ l, ∃ x, x < N ∧ S.testBit x = true) (hp : l.Pairwise (fun S T => ¬ Meet S T)) : l.length ≤ N := by
  obtain ⟨r, h1, h2, h3, _⟩ := apart_len l h hp
  rw [← h1]
  exact nodup_len N r h2 h3
end Go.Proofs.Ythjnmlpibafbnaa
namespace Go.Proofs.Ythjnmlpibafbnaa
open Go.RowKit DM
set_option linter.unusedVariables false
set_option linter.unusedSimpArgs false
structure Bf (N : Nat) (L : List (Nat → Nat)) (B : Nat) (l : List Nat) : Prop where
  orb : ∀ S ∈ l, Orb N L B S
  apart : l.Pairwise fun S T => ¬ Meet S T
  base : B ∈ l
theorem Bf.start {N : Nat} {L : List (Nat → Nat)} {B : Nat} (h : Low N B) : Bf N L B [B] where
  orb S hS := by rw [List.mem_singleton.1 hS]; exact .base h
  apart := List.pairwise_singleton _ _
  base := .head _
theorem Bf.add {N : Nat} {L : List (Nat → Nat)} {B : Nat} {l : List Nat} (h : Bf N L B l) {S : Nat} (hS : Orb N L B S) (hn : ∀ T ∈ l, ¬ Meet T S) : Bf N L B (l ++ [S]) where
  orb T hT := by
    rcases List.mem_append.1 hT with hT | hT
    · exact h.orb T hT
    · rw [List.mem_singleton.1 hT]; exact hS
  apart := List.pairwise_append.2 ⟨h.apart, List.pairwise_singleton _ _, fun T hT U hU => by rw [List.mem_singleton.1 hU]; exact hn T hT⟩
  base := List.mem_append.2 (.inl h.base)
theorem Bf.len {N : Nat} {L : List (Nat → Nat)} {B : Nat} {l : List Nat} (h : Bf N L B l) (hL : ∀ g ∈ L, Np N g) (hB : ∃ x, x < N ∧ B.testBit x = true) : l.length ≤ N :=
  apart_le (fun S hS => by
    obtain ⟨x, hx⟩ := (h.orb S hS).some hL hB
    exact ⟨x, (h.orb S hS).low hL x hx, hx⟩) h.apart
theorem Bf.low {N : Nat} {L : List (Nat → Nat)} {B : Nat} {l : List Nat} (h : Bf N L B l) (hL : ∀ g ∈ L, Np N g) {i : Nat} (hi : i < l.length) : Low N (l.getD i 0) := (h.orb _ (getD_mem hi)).low hL
theorem meet_comm {S T : Nat} (h : Meet S T) : Meet T S := by obtain ⟨x, h1, h2⟩ := h; exact ⟨x, h2, h1⟩
theorem Bf.same {N : Nat} {L : List (Nat → Nat)} {B : Nat} {l : List Nat} (h : Bf N L B l) {S T : Nat} (hS : S ∈ l) (hT : T ∈ l) (hm : Meet S T) : S = T := by
  obtain ⟨i, hi, e1⟩ := mem_getD hS
  obtain ⟨j, hj, e2⟩ := mem_getD hT
  have hp := List.pairwise_iff_getElem.1 h.apart
  have g1 : l[i] = S := by rw [← e1, List.getD_eq_getElem?_getD, List.getElem?_eq_getElem hi]; rfl
  have g2 : l[j] = T := by rw [← e2, List.getD_eq_getElem?_getD, List.getElem?_eq_getElem hj]; rfl
  rcases Nat.lt_trichotomy i j with h1 | h1 | h1
  · exact absurd (g1 ▸ g2 ▸ hm) (hp i j hi hj h1)
  · subst h1; rw [← g1, ← g2]
  · exact absurd (g2 ▸ g1 ▸ meet_comm hm) (hp j i hj hi h1)
theorem Bf.done {N : Nat} {b w : Nat → Nat} {B : Nat} {l : List Nat} (h : Bf N [b, w] B l) (hL : ∀ g ∈ [b, w], Np N g) (hB : Low N B) (hc : ∀ i, i < l.length → img b N (l.getD i 0) ∈ l ∧ img w N (l.getD i 0) ∈ l) : Blk N [b, w] B ∧ ∀ S, Orb N [b, w] B S ↔ S ∈ l := by
  have hcl : ∀ S, S ∈ l → ∀ p ∈ [b, w], img p N S ∈ l := fun S hS p hp => by
    obtain ⟨i, hi, rfl⟩ := mem_getD hS
    rcases List.mem_cons.1 hp with rfl | hp
    · exact (hc i hi).1
    · rw [List.mem_singleton.1 hp]; exact (hc i hi).2
  exact ⟨blk_of hL hB (P := fun S => S ∈ l) h.base hcl fun S T hS hT hm => h.same hS hT hm, fun S => ⟨fun hS => orb_in hL hB (P := fun S => S ∈ l) h.base hcl hS, h.orb S⟩⟩
theorem Bf.not {N : Nat} {L : List (Nat → Nat)} {B : Nat} {l : List Nat} (h : Bf N L B l) {S T : Nat} (hS : S ∈ l) (hT : Orb N L B T) (hm : Meet S T) (hn : T ∉ l) : ¬ Blk N L B := fun hb => hn (hb S T (h.orb S hS) hT hm ▸ hS)
end Go.Proofs.Ythjnmlpibafbnaa
