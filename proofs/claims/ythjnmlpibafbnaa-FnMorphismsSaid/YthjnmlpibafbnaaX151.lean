import Derived.Test.YthjnmlpibafbnaaL49
import Derived.Test.YthjnmlpibafbnaaX42
import Derived.Test.YthjnmlpibafbnaaX145
import Derived.Test.YthjnmlpibafbnaaX36
import Derived.Test.YthjnmlpibafbnaaL37
import Derived.Test.YthjnmlpibafbnaaX144
namespace Go.Proofs.Ythjnmlpibafbnaa
open Go.RowKit DM
set_option linter.unusedVariables false
section
variable {f g : Nat × Nat → Nat × Nat}
theorem qst_all {S : Nat × Nat → Prop} {y : Nat × Nat} {Q : List (Nat × Nat)} (hy : S y) (h : ∀ z ∈ Q, S z) : ∀ z ∈ qst y Q, S z := fun z hz => by
  rcases qst_mem.1 hz with rfl | hz
  · exact hy
  · exact h z hz
theorem prun_min {S : Nat × Nat → Prop} (hf : ∀ z, S z → S (f z) ∧ S (g z)) : ∀ (k i : Nat) (Q : List (Nat × Nat)), (∀ z ∈ Q, S z) → ∀ z ∈ prun f g k i Q, S z
  | 0, _, Q, h => h
  | k + 1, i, Q, h => by
    simp only [prun]
    split
    · rename_i hi
      have hm := h (Q.getD i (0, 0)) (by rw [List.getD_eq_getElem?_getD, List.getElem?_eq_getElem hi]; exact List.getElem_mem hi)
      exact prun_min hf k (i + 1) _ (qst_all (hf _ hm).2 (qst_all (hf _ hm).1 h))
    · exact h
theorem prQ_min {S : Nat × Nat → Prop} {z : Nat × Nat} (h0 : S z) (hf : ∀ z, S z → S (f z) ∧ S (g z)) : ∀ y ∈ prQ f g z, S y :=
  prun_min hf _ _ _ fun y hy => by rw [List.mem_singleton.1 hy]; exact h0
theorem prun_head : ∀ (k i : Nat) (Q : List (Nat × Nat)), 0 < Q.length → (prun f g k i Q).getD 0 (0, 0) = Q.getD 0 (0, 0)
  | 0, _, _, _ => rfl
  | k + 1, i, Q, h => by
    simp only [prun]
    split
    · have h1 := qst_len (f (Q.getD i (0, 0))) Q
      have h2 := qst_len (g (Q.getD i (0, 0))) (qst (f (Q.getD i (0, 0))) Q)
      rw [prun_head k (i + 1) _ (by omega), qst_get (by omega), qst_get h]
    · rfl
theorem prQ_head (z : Nat × Nat) : (prQ f g z).getD 0 (0, 0) = z := by
  unfold prQ pres
  rw [prun_head _ _ _ (by simp)]
  rfl
end
theorem ix_at {Q : List (Nat × Nat)} {y : Nat × Nat} (h : y ∈ Q) : Q.getD (ixP Q y) (0, 0) = y := by
  have h1 := ixP_lt h
  rw [List.getD_eq_getElem?_getD, List.getElem?_eq_getElem h1]
  exact List.getElem_idxOf h1
section
variable {N M : Nat} {b w b' w' : Nat → Nat}
theorem keepsP {p q : Nat → Nat} (hp : Perm N p) (hq : Perm M q) : KeepsP N M (stP p q) := fun z hz => ⟨hp.lt _ hz.1, hq.lt _ hz.2⟩
theorem stP_inj {p q : Nat → Nat} (hp : Perm N p) (hq : Perm M q) {z y : Nat × Nat} (hz : z.1 < N ∧ z.2 < M) (hy : y.1 < N ∧ y.2 < M) (e : stP p q z = stP p q y) : z = y := by
  have e1 := congrArg Prod.fst e
  have e2 := congrArg Prod.snd e
  exact Prod.ext (hp.inj _ _ hz.1 hy.1 e1) (hq.inj _ _ hz.2 hy.2 e2)
def proF (Q : List (Nat × Nat)) (p q : Nat → Nat) : Nat → Nat := fillF (fun k => ixP Q (stP p q (Q.getD k (0, 0)))) Q.length
theorem pro_perm {Q : List (Nat × Nat)} (hQ : PInv N M Q) {p q : Nat → Nat} (hp : Perm N p) (hq : Perm M q) (hc : ∀ y ∈ Q, stP p q y ∈ Q) : Perm Q.length (proF Q p q) := by
  have hm : ∀ i, i < Q.length → Q.getD i (0, 0) ∈ Q := fun i hi => by rw [List.getD_eq_getElem?_getD, List.getElem?_eq_getElem hi]; exact List.getElem_mem hi
  have at_ : ∀ i, i < Q.length → proF Q p q i = ixP Q (stP p q (Q.getD i (0, 0))) := fun i hi => by
    show (if i < Q.length then _ else 0) = _
    rw [if_pos hi]
  refine ⟨fun i hi => by rw [at_ i hi]; exact ixP_lt (hc _ (hm i hi)), fun i j hi hj e => ?_⟩
  rw [at_ i hi, at_ j hj] at e
  have e2 := congrArg (fun k => Q.getD k (0, 0)) e
  simp only [ix_at (hc _ (hm i hi)), ix_at (hc _ (hm j hj))] at e2
  have e3 := stP_inj hp hq (hQ.get hi) (hQ.get hj) e2
  have e4 := congrArg (ixP Q) e3
  rwa [ixP_get hQ.nodup hi, ixP_get hQ.nodup hj] at e4
theorem pro_des (hD : Des N b w) (hD' : Des M b' w') {z : Nat × Nat} (hz : z.1 < N ∧ z.2 < M) (h16 : (prQ (stP b b') (stP w w') z).length ≤ 16) :
    Des (prQ (stP b b') (stP w w') z).length (proF (prQ (stP b b') (stP w w') z) b b') (proF (prQ (stP b b') (stP w w') z) w w') := by
  obtain ⟨hI, hzm, hcl⟩ := prQ_ok hD.le hD'.le (keepsP hD.pb hD'.pb) (keepsP hD.pw hD'.pw) hz
  have hmin := fun S h0 hf => prQ_min (f := stP b b') (g := stP w w') (S := S) (z := z) h0 hf
  have hhead := prQ_head (f := stP b b') (g := stP w w') z
  generalize prQ (stP b b') (stP w w') z = Q at *
  have hm : ∀ i, i < Q.length → Q.getD i (0, 0) ∈ Q := fun i hi => by rw [List.getD_eq_getElem?_getD, List.getElem?_eq_getElem hi]; exact List.getElem_mem hi
  have hpos : 0 < Q.length := List.length_pos_of_mem hzm
  refine des_mk hpos h16 (pro_perm hI hD.pb hD'.pb fun y hy => (hcl y hy).1) (pro_perm hI hD.pw hD'.pw fun y hy => (hcl y hy).2) fun S h0 hS i hi => ?_
  have := hmin (fun y => ∃ i, i < Q.length ∧ Q.getD i (0, 0) = y ∧ S i) ⟨0, hpos, hhead, h0⟩ (fun y ⟨j, hj, e, hs⟩ => by
    subst e
    have h2 := hS j hj hs
    have h3 := hcl _ (hm j hj)
    have at_ : ∀ p q : Nat → Nat, proF Q p q j = ixP Q (stP p q (Q.getD j (0, 0))) := fun p q => by show (if j < Q.length then _ else 0) = _; rw [if_pos hj]
    rw [at_, at_] at h2
    exact ⟨⟨_, ixP_lt h3.1, ix_at h3.1, h2.1⟩, ⟨_, ixP_lt h3.2, ix_at h3.2, h2.2⟩⟩) _ (hm i hi)
  obtain ⟨j, hj, e, hs⟩ := this
  have := congrArg (ixP Q) e
  rw [ixP_get hI.nodup hj, ixP_get hI.nodup hi] at this
  rwa [this] at hs
theorem pro_left (hD : Des N b w) (hD' : Des M b' w') {z : Nat × Nat} (hz : z.1 < N ∧ z.2 < M) :
    Eqv (prQ (stP b b') (stP w w') z).length (proF (prQ (stP b b') (stP w w') z) b b') (proF (prQ (stP b b') (stP w w') z) w w') b w (fun i => ((prQ (stP b b') (stP w w') z).getD i (0, 0)).1) ∧
    Eqv (prQ (stP b b') (stP w w') z).length (proF (prQ (stP b b') (stP w w') z) b b') (proF (prQ (stP b b') (stP w w') z) w w') b' w' (fun i => ((prQ (stP b b') (stP w w') z).getD i (0, 0)).2) ∧
    ∀ i, i < (prQ (stP b b') (stP w w') z).length → ((prQ (stP b b') (stP w w') z).getD i (0, 0)).1 < N ∧ ((prQ (stP b b') (stP w w') z).getD i (0, 0)).2 < M := by
  obtain ⟨hI, hzm, hcl⟩ := prQ_ok hD.le hD'.le (keepsP hD.pb hD'.pb) (keepsP hD.pw hD'.pw) hz
  generalize prQ (stP b b') (stP w w') z = Q at *
  have hm : ∀ i, i < Q.length → Q.getD i (0, 0) ∈ Q := fun i hi => by rw [List.getD_eq_getElem?_getD, List.getElem?_eq_getElem hi]; exact List.getElem_mem hi
  have at_ : ∀ (p q : Nat → Nat) i, i < Q.length → proF Q p q i = ixP Q (stP p q (Q.getD i (0, 0))) := fun p q i hi => by show (if i < Q.length then _ else 0) = _; rw [if_pos hi]
  have key : ∀ (p q : Nat → Nat) i, i < Q.length → stP p q (Q.getD i (0, 0)) ∈ Q → Q.getD (proF Q p q i) (0, 0) = stP p q (Q.getD i (0, 0)) := fun p q i hi h => by rw [at_ p q i hi, ix_at h]
  refine ⟨fun i hi => ?_, fun i hi => ?_, fun i hi => hI.get hi⟩
  · show (Q.getD (proF Q b b' i) (0, 0)).1 = b (Q.getD i (0, 0)).1 ∧ (Q.getD (proF Q w w' i) (0, 0)).1 = w (Q.getD i (0, 0)).1
    rw [key _ _ i hi (hcl _ (hm i hi)).1, key _ _ i hi (hcl _ (hm i hi)).2]; exact ⟨rfl, rfl⟩
  · show (Q.getD (proF Q b b' i) (0, 0)).2 = b' (Q.getD i (0, 0)).2 ∧ (Q.getD (proF Q w w' i) (0, 0)).2 = w' (Q.getD i (0, 0)).2
    rw [key _ _ i hi (hcl _ (hm i hi)).1, key _ _ i hi (hcl _ (hm i hi)).2]; exact ⟨rfl, rfl⟩
theorem foldl_putS (Q : List (Nat × Nat)) : ∀ S : List (Nat × Nat), Q.Nodup → (∀ z ∈ Q, z ∉ S) → Q.foldl putS S = S ++ Q := by
  induction Q with
  | nil => intro S _ _; simp
  | cons a Q ih =>
    intro S hn hd
    have ha : a ∉ S := hd a (List.mem_cons_self ..)
    rw [List.foldl_cons, show putS S a = S ++ [a] by unfold putS; rw [if_neg ha], ih (S ++ [a]) (List.nodup_cons.1 hn).2 fun z hz => by
      rw [List.mem_append, List.mem_singleton]
      rintro (h | rfl)
      · exact hd z (List.mem_cons_of_mem _ hz) h
      · exact (List.nodup_cons.1 hn).1 hz]
    simp
structure SzI (N M : Nat) (f g : Nat × Nat → Nat × Nat) (s : SzT) : Prop where
  inv : PInv N M s.1
  cl : ∀ z, z.1 < N ∧ z.2 < M → (f z ∈ s.1 ↔ z ∈ s.1) ∧ (g z ∈ s.1 ↔ z ∈ s.1)
  sum : s.2.sum = s.1.length
theorem cl_back {f : Nat × Nat → Nat × Nat} (hi : ∀ z y, (z.1 < N ∧ z.2 < M) → (y.1 < N ∧ y.2 < M) → f z = f y → z = y) {S : List (Nat × Nat)} (hS : PInv N M S) (hc : ∀ z ∈ S, f z ∈ S) {z : Nat × Nat} (hz : z.1 < N ∧ z.2 < M) (h : f z ∈ S) : z ∈ S := by
  refine Classical.byContradiction fun hn => ?_
  -- S mapped by f lies in S less f z
  have hd : (S.map f).Nodup := nodup_map_of hS.nodup fun x hx y hy e => hi x y (hS.small x hx) (hS.small y hy) e
  have hne : f z ∉ S.map f := fun hm => by
    obtain ⟨y, hy, e⟩ := List.mem_map.1 hm
    exact hn (hi y z (hS.small y hy) hz e ▸ hy)
  have h1 : (S.map f).length ≤ (S.erase (f z)).length := by
    have key : ∀ (l k : List (Nat × Nat)), l.Nodup → (∀ x ∈ l, x ∈ k) → l.length ≤ k.length := by
      intro l
      induction l with
      | nil => intro k _ _; exact Nat.zero_le _
      | cons a l ih =>
        intro k hl hs
        have ha := hs a (List.mem_cons_self ..)
        have h2 := ih (k.erase a) (List.nodup_cons.1 hl).2 fun x hx => by
          have hne : x ≠ a := fun e => by subst e; exact (List.nodup_cons.1 hl).1 hx
          exact (List.mem_erase_of_ne hne).2 (hs x (List.mem_cons_of_mem _ hx))
        rw [List.length_erase_of_mem ha] at h2
        have : 0 < k.length := List.length_pos_of_mem ha
        simp only [List.length_cons]; omega
    refine key _ _ hd fun x hx => ?_
    have hxz : x ≠ f z := fun e => hne (e ▸ hx)
    obtain ⟨y, hy, rfl⟩ := List.mem_map.1 hx
    exact (List.mem_erase_of_ne hxz).2 (hc y hy)
  rw [List.length_map, List.length_erase_of_mem h] at h1
  have : 0 < S.length := List.length_pos_of_mem h
  omega
theorem SzI.step (hN : N ≤ 16) (hM : M ≤ 16) {f g : Nat × Nat → Nat × Nat} (hf : KeepsP N M f) (hg : KeepsP N M g) (hfi : ∀ z y, (z.1 < N ∧ z.2 < M) → (y.1 < N ∧ y.2 < M) → f z = f y → z = y) (hgi : ∀ z y, (z.1 < N ∧ z.2 < M) → (y.1 < N ∧ y.2 < M) → g z = g y → z = y) {s : SzT} (h : SzI N M f g s) {z : Nat × Nat} (hz : z.1 < N ∧ z.2 < M) :
    SzI N M f g (szSt (prQ f g) s z) ∧ z ∈ (szSt (prQ f g) s z).1 ∧ ∀ y ∈ s.1, y ∈ (szSt (prQ f g) s z).1 := by
  unfold szSt
  by_cases hm : z ∈ s.1
  · rw [if_pos hm]; exact ⟨h, hm, fun y hy => hy⟩
  · rw [if_neg hm]
    obtain ⟨hI, hzm, hcl⟩ := prQ_ok hN hM hf hg hz
    have hout : ∀ y ∈ prQ f g z, y ∉ s.1 ∧ (y.1 < N ∧ y.2 < M) := prQ_min (S := fun y => y ∉ s.1 ∧ (y.1 < N ∧ y.2 < M)) ⟨hm, hz⟩ fun y hy => ⟨⟨fun h2 => hy.1 ((h.cl y hy.2).1.1 h2), hf y hy.2⟩, ⟨fun h2 => hy.1 ((h.cl y hy.2).2.1 h2), hg y hy.2⟩⟩
    generalize prQ f g z = Q at *
    have e : mkS s.1 Q Q.length = s.1 ++ Q := by
      unfold mkS
      rw [List.take_length]
      exact foldl_putS Q s.1 hI.nodup fun y hy => (hout y hy).1
    rw [e]
    have hinv : PInv N M (s.1 ++ Q) := ⟨fun y hy => by
      rcases List.mem_append.1 hy with hy | hy
      · exact h.inv.small y hy
      · exact hI.small y hy, List.nodup_append.2 ⟨h.inv.nodup, hI.nodup, fun a ha c hc e => by subst e; exact (hout a hc).1 ha⟩⟩
    have hcl2 : ∀ y ∈ s.1 ++ Q, f y ∈ s.1 ++ Q ∧ g y ∈ s.1 ++ Q := fun y hy => by
      rcases List.mem_append.1 hy with hy | hy
      · have := h.cl y (h.inv.small y hy)
        exact ⟨List.mem_append.2 (.inl (this.1.2 hy)), List.mem_append.2 (.inl (this.2.2 hy))⟩
      · exact ⟨List.mem_append.2 (.inr (hcl y hy).1), List.mem_append.2 (.inr (hcl y hy).2)⟩
    refine ⟨⟨hinv, fun y hy => ⟨⟨fun h2 => cl_back hfi hinv (fun z hz => (hcl2 z hz).1) hy h2, fun h2 => (hcl2 y h2).1⟩, ⟨fun h2 => cl_back hgi hinv (fun z hz => (hcl2 z hz).2) hy h2, fun h2 => (hcl2 y h2).2⟩⟩, ?_⟩, List.mem_append.2 (.inr hzm), fun y hy => List.mem_append.2 (.inl hy)⟩
    show (s.2 ++ [Q.length]).sum = (s.1 ++ Q).length
    rw [List.sum_append, h.sum, List.length_append]; simp
theorem szAll_inv (hN : N ≤ 16) (hM : M ≤ 16) {f g : Nat × Nat → Nat × Nat} (hf : KeepsP N M f) (hg : KeepsP N M g) (hfi : ∀ z y, (z.1 < N ∧ z.2 < M) → (y.1 < N ∧ y.2 < M) → f z = f y → z = y) (hgi : ∀ z y, (z.1 < N ∧ z.2 < M) → (y.1 < N ∧ y.2 < M) → g z = g y → z = y) : ∀ x, x ≤ N → SzI N M f g (szAll (prQ f g) M x) ∧ ∀ z, z.1 < x → z.2 < M → z ∈ (szAll (prQ f g) M x).1
  | 0, _ => ⟨⟨⟨fun z hz => (by cases hz), List.nodup_nil⟩, fun z _ => ⟨⟨fun h => (by cases h), fun h => (by cases h)⟩, ⟨fun h => (by cases h), fun h => (by cases h)⟩⟩, rfl⟩, fun z h => absurd h (Nat.not_lt_zero _)⟩
  | x + 1, hx => by
    obtain ⟨h1, h2⟩ := szAll_inv hN hM hf hg hfi hgi x (by omega)
    have row : ∀ y, y ≤ M → SzI N M f g (szRow (prQ f g) x (szAll (prQ f g) M x) y) ∧ (∀ z ∈ (szAll (prQ f g) M x).1, z ∈ (szRow (prQ f g) x (szAll (prQ f g) M x) y).1) ∧ ∀ c, c < y → (x, c) ∈ (szRow (prQ f g) x (szAll (prQ f g) M x) y).1 := by
      intro y
      induction y with
      | zero => intro _; exact ⟨h1, fun z hz => hz, fun c hc => absurd hc (Nat.not_lt_zero _)⟩
      | succ y ih =>
        intro hy
        obtain ⟨a1, a2, a3⟩ := ih (by omega)
        obtain ⟨c1, c2, c3⟩ := a1.step hN hM hf hg hfi hgi (z := (x, y)) ⟨by show x < N; omega, by show y < M; omega⟩
        refine ⟨c1, fun z hz => c3 z (a2 z hz), fun c hc => ?_⟩
        by_cases e : c = y
        · subst e; exact c2
        · exact c3 _ (a3 c (by omega))
    obtain ⟨r1, r2, r3⟩ := row M (Nat.le_refl _)
    refine ⟨r1, fun z hz hz2 => ?_⟩
    by_cases e : z.1 < x
    · exact r2 z (h2 z e hz2)
    · have : z = (x, z.2) := Prod.ext (by show z.1 = x; omega) rfl
      rw [this]; exact r3 _ hz2
theorem sz_sum (hD : Des N b w) (hD' : Des M b' w') : (srtN (szAll (prQ (stP b b') (stP w w')) M N).2).sum = N * M := by
  obtain ⟨h1, h2⟩ := szAll_inv hD.le hD'.le (keepsP hD.pb hD'.pb) (keepsP hD.pw hD'.pw) (fun z y hz hy e => stP_inj hD.pb hD'.pb hz hy e) (fun z y hz hy e => stP_inj hD.pw hD'.pw hz hy e) N (Nat.le_refl _)
  have hp : (srtN (szAll (prQ (stP b b') (stP w w')) M N).2).Perm (szAll (prQ (stP b b') (stP w w')) M N).2 := List.mergeSort_perm _ _
  rw [hp.sum_nat, h1.sum]
  have hI := h1.inv
  generalize (szAll (prQ (stP b b') (stP w w')) M N).1 = S at *
  refine Nat.le_antisymm hI.len ?_
  -- all pairs, by their numbers
  have hinj : (S.map fun z => z.1 * M + z.2).Nodup := nodup_map_of hI.nodup fun x hx y hy e => pair_code (N := N) (hI.small x hx).2 (hI.small y hy).2 e
  have := nodup_sub (List.range (N * M)) (S.map fun z => z.1 * M + z.2) List.nodup_range fun k hk => by
    have hk := List.mem_range.1 hk
    have hM0 : 0 < M := hD'.pos
    refine List.mem_map.2 ⟨(k / M, k % M), h2 _ ((Nat.div_lt_iff_lt_mul hM0).2 hk) (Nat.mod_lt _ hM0), ?_⟩
    show k / M * M + k % M = k
    rw [Nat.mul_comm]; exact Nat.div_add_mod k M
  rwa [List.length_range, List.length_map] at this
end
end Go.Proofs.Ythjnmlpibafbnaa

namespace Go.Proofs.Ythjnmlpibafbnaa
open Go.RowKit DM
set_option linter.unusedSimpArgs false
set_option linter.unusedVariables false
set_option maxRecDepth 100000
set_option maxHeartbeats 1000000
set_option maxHeartbeats 4000000
theorem lists9_fn (N : Nat) (L : List (Nat → Int)) (hN : N ≤ 16) (hn : L.length ≤ 4294967296) : FnR Try.prog 8 [.sl 0 0 L.length 1, .sl 1 0 L.length 1] [.ro L.length 1 (moF N L), .ro L.length 1 (moF N L)] (.b true) := by
  refine FnS.into T tok Try.func8 (by rfl) rfl rfl rfl (by simp) ?_
  refine rS ?_
  refine WP.seq ?_
  refine rS ?_
  refine WP.cond (by rfl) (fun h => ?_) (fun h => WP.skip ?_)
  · simp at h
  refine WP.seq ?_
  refine rS ?_
  refine WP.block ?_
  refine WP.loopH (⟨fun k : Nat => k ≤ L.length, fun k => [(0, .sl 0 0 L.length 1), (1, .sl 1 0 L.length 1), (5, .i .i64 (k : Int))], fun k => [.ro L.length 1 (moF N L), .ro L.length 1 (moF N L)], fun k => L.length - k⟩) (0) (Nat.zero_le _) (gC [0, 1] (leC (leC leZ))) ?_
  intro k hk
  dsimp only at hk
  dsimp only [Hd.at]
  refine WP.seq ?_
  refine rS ?_
  refine WP.cond (by rfl) (fun hc => WP.skip ?_) (fun hc => WP.exit ?_)
  · have hk : k < L.length := by have := of_decide_eq_true hc; omega
    clear hc
    have hlk := likeInts_fn N N (L.getD k fun _ => 0) (L.getD k fun _ => 0) (by omega) (by omega)
    rw [likeB_same] at hlk
    refine WP.seq (WP.block ?_)
    refine WP.seq ?_
    refine WP.drawsQ (by kernel_rfl) (by kernel_rfl) ?_
    refine WQ.run T false 8 tok (by rfl) (by rfl) (by exact byObl) ?_
    refine WQ.callR [2, 3] (hlk) (by rfl) (leC (leC leZ)) (by exact byArgs) (by rfl) (by rfl) (by simp [Sc, sc_pl, sc_ds]) (⟨trivial, trivial, trivial⟩) ?_
    refine WQ.fin T false tok (by rfl) (by rfl) (by exact byObl) ?_
    refine WP.cond (by rfl) (fun h => ?_) (fun h => WP.skip ?_)
    · cases h
    · refine rE ?_
      refine Again.next (k + 1) (gC [0, 1] (leC (leC leZ))) (hk) (by dsimp only; omega)
  · refine rS ?_
    exact WP.ret (Ends.val (by rfl) (by exact byObl) (by rfl) (by trivial))
theorem lists9_nil : FnP Try.prog 8 [.ns, .ns] (.b true) := by
  refine FnS.into T tok Try.func8 (by rfl) rfl rfl rfl (by simp) ?_
  refine rS ?_
  refine WP.seq ?_
  refine rS ?_
  refine WP.cond (by rfl) (fun h => ?_) (fun h => WP.skip ?_)
  · cases h
  refine WP.seq ?_
  refine rS ?_
  refine WP.block ?_
  refine WP.loopH (⟨fun k : Nat => k = 0, fun k => [(0, .ns), (1, .ns), (5, .i .i64 (k : Int))], fun k => [], fun k => 0⟩) (0) (rfl) (gC [] leZ) ?_
  rintro k hk
  dsimp only at hk
  subst hk
  dsimp only [Hd.at]
  refine WP.seq ?_
  refine rS ?_
  refine WP.cond (by rfl) (fun hc => WP.skip ?_) (fun hc => WP.exit ?_)
  · cases hc
  · refine rS ?_
    exact WP.ret (Ends.val (by rfl) (by exact byObl) (by rfl) (by trivial))
theorem both_true {N M : Nat} {b w b' w' : Nat → Nat} (h1 : desB N b w = true) (h2 : desB M b' w' = true) : bothB N b w M b' w' = true := by unfold bothB; rw [h1, h2]; rfl
theorem mors_A {n n' : Int} {b w b' w' : Nat → Nat} (h : bothB n b w n' b' w' = false) : morsR n b w n' b' w' = (t2 .ns (.i .i64 1), []) := by unfold morsR; rw [h]; rfl
theorem mors_B {N M : Nat} {b w b' w' : Nat → Nat} (h : bothB N b w M b' w' = true) : morsR N b w M b' w' = (t2 (.sl 0 0 (morL b w b' w' M).length 1) (.i .i64 0), [.row 36 (morL b w b' w' M).length 1 (moF N (morL b w b' w' M))]) := by unfold morsR; rw [h]; rfl
theorem szT_A {n n' : Int} {b w b' w' : Nat → Nat} (h : bothB n b w n' b' w' = false) : szT n b w n' b' w' = (t2 .ns (.i .i64 1), []) := by unfold szT; rw [h]; rfl
theorem szT_B {N M : Nat} {b w b' w' : Nat → Nat} (h : bothB N b w M b' w' = true) : szT N b w M b' w' = (t2 (.sl 0 0 (szR N M b w b' w').length 1) (.i .i64 0), [.row 2 (szR N M b w b' w').length 1 (numsF (szR N M b w b' w'))]) := by unfold szT; rw [h]; rfl
theorem qu_cases {n : Int} {b w p : Nat → Nat} (hb : Bt 256 b) (hw : Bt 256 w) : (∃ (F K : Nat) (B W R : Nat → Nat) (i0 : Nat), n = F ∧ quR n b w p = (t3 (ds_ K B W) (.sl 0 0 F 1) (.i .i64 0), [.row 2 F 1 (nmF R)]) ∧ desB F b w = true ∧ desB K B W = true ∧ 1 ≤ F ∧ F ≤ 16 ∧ 1 ≤ K ∧ K ≤ 16 ∧ (∀ i, B i < 256) ∧ (∀ i, W i < 256) ∧ K ∣ F ∧ i0 < (morL b w B W K).length ∧ (morL b w B W K).length ≤ K ∧ ∀ x, x < F → (morL b w B W K).getD i0 (fun _ => 0) x = ((R x : Nat) : Int)) ∨
    ∃ c : Int, c ≠ 0 ∧ quR n b w p = (t3 (ds_ 0 (fun _ => 0) (fun _ => 0)) .ns (.i .i64 c), []) := by
  cases hd : desB n b w && permB p n
  · exact .inr ⟨1, by decide, by unfold quR; rw [hd]; rfl⟩
  simp only [Bool.and_eq_true] at hd
  obtain ⟨hd, hp⟩ := hd
  obtain ⟨F, rfl, hD⟩ := des_of_B hd
  obtain ⟨F', e, _, _, hP⟩ := perm_of_B hp
  obtain rfl := Int.ofNat_inj.1 e
  cases he : eqDs F (renTo p b F) (renTo p w F) F b w
  · exact .inr ⟨5, by decide, by unfold quR; rw [hd, hp, Int.toNat_natCast, he]; rfl⟩
  have hN := hD.le
  obtain ⟨c1, c2⟩ := comm_of hN hP he
  have hE : Eqv F b w b w p := fun x hx => ⟨c1 x hx, c2 x hx⟩
  have hq := qu_des hD hP hE
  have hv := qu_eqv hD hP hE
  have bB := qu_bt hD hP hD.pb.lt
  have bW := qu_bt hD hP hD.pw.lt
  have hlt : ∀ x, x < F → prtF (cycs p F) x < (cycs p F).length := fun x hx => prt_lt hN hP hx
  obtain ⟨i0, h1, h2⟩ := mor_has hD hq.pb.lt hq.pw.lt hlt hv
  have hdv : (cycs p F).length ∣ F := ⟨fibN F (prtF (cycs p F)) 0, by rw [Nat.mul_comm]; exact (fib_count hD hq hv hlt hq.pos).symm⟩
  have zB : ∀ i, (cycs p F).length ≤ i → fillF (hdQ (cycs p F) b) (cycs p F).length i = 0 := fun i hi => by
    show (if i < (cycs p F).length then _ else 0) = 0
    rw [if_neg (by omega)]
  have zW : ∀ i, (cycs p F).length ≤ i → fillF (hdQ (cycs p F) w) (cycs p F).length i = 0 := fun i hi => by
    show (if i < (cycs p F).length then _ else 0) = 0
    rw [if_neg (by omega)]
  exact .inl ⟨F, _, _, _, _, i0, rfl, by unfold quR; rw [hd, hp, Int.toNat_natCast, he]; rfl, hd, desB_mk hq zB zW, hD.pos, hN, hq.pos, hq.le, fun i => Nat.lt_of_lt_of_le (bB.lt i) (by decide), fun i => Nat.lt_of_lt_of_le (bW.lt i) (by decide), hdv, h1, morL_len _ _ _ _ _, h2⟩
theorem stT_at (Q : List (Nat × Nat)) (p q : Nat → Nat) : ∀ k i, stT Q p q k i = if i < k then ixP Q (stP p q (Q.getD i (0, 0))) else 0
  | 0, i => by rw [if_neg (Nat.not_lt_zero _)]; rfl
  | k + 1, i => by
    have ih := stT_at Q p q k i
    show up (stT Q p q k) k (ixP Q (stP p q (Q.getD k (0, 0)))) i = _
    unfold Go.Proofs.Ythjnmlpibafbnaa.up
    by_cases h : i = k
    · subst h; rw [if_pos rfl, if_pos (by omega)]
    · rw [if_neg h, ih]
      by_cases c : i < k
      · rw [if_pos c, if_pos (by omega)]
      · rw [if_neg c, if_neg (by omega)]
theorem stT_pro (Q : List (Nat × Nat)) (p q : Nat → Nat) : stT Q p q Q.length = proF Q p q := funext fun i => by rw [stT_at]; rfl
theorem pa_cases {n n' : Int} {b w b' w' : Nat → Nat} {x y : Int} (hb : Bt 256 b) (hw : Bt 256 w) (hb' : Bt 256 b') (hw' : Bt 256 w') : (∃ (F G K : Nat) (B W : Nat → Nat), n = F ∧ n' = G ∧ paR n b w n' b' w' x y = t2 (ds_ K B W) (.i .i64 0) ∧ desB F b w = true ∧ desB G b' w' = true ∧ desB K B W = true ∧ K ≤ 16 ∧ F ≤ 16 ∧ G ≤ 16 ∧ (∀ i, B i < 256) ∧ (∀ i, W i < 256) ∧ 0 < (morL B W b w F).length ∧ 0 < (morL B W b' w' G).length ∧ (morL B W b w F).length ≤ F ∧ (morL B W b' w' G).length ≤ G) ∨
    ∃ c : Int, c ≠ 0 ∧ paR n b w n' b' w' x y = t2 (ds_ 0 (fun _ => 0) (fun _ => 0)) (.i .i64 c) := by
  cases hd : desB n b w && desB n' b' w'
  · exact .inr ⟨1, by decide, by unfold paR; rw [hd]; rfl⟩
  cases hi : (decide (0 ≤ x) && decide (x < n)) && (decide (0 ≤ y) && decide (y < n'))
  · exact .inr ⟨2, by decide, by unfold paR; rw [hd, hi]; rfl⟩
  cases hl : decide (16 < (prQ (stP b b') (stP w w') (x.toNat, y.toNat)).length)
  case true => exact .inr ⟨3, by decide, by unfold paR; rw [hd, hi, hl]; rfl⟩
  have hd2 := hd
  simp only [Bool.and_eq_true] at hd2
  obtain ⟨d1, d2⟩ := hd2
  obtain ⟨F, rfl, hD⟩ := des_of_B d1
  obtain ⟨G, rfl, hD'⟩ := des_of_B d2
  have hi2 := hi
  simp only [Bool.and_eq_true, decide_eq_true_eq] at hi2
  have hz : (x.toNat, y.toNat).1 < F ∧ (x.toNat, y.toNat).2 < G := ⟨by show x.toNat < F; omega, by show y.toNat < G; omega⟩
  have h16 : (prQ (stP b b') (stP w w') (x.toNat, y.toNat)).length ≤ 16 := by have := of_decide_eq_false hl; omega
  have hP := pro_des hD hD' hz h16
  obtain ⟨e1, e2, e3⟩ := pro_left hD hD' hz
  have e := (show paR F b w G b' w' x y = _ by unfold paR; rw [hd, hi, hl]; rfl : paR F b w G b' w' x y = t2 (ds_ (prQ (stP b b') (stP w w') (x.toNat, y.toNat)).length (stT (prQ (stP b b') (stP w w') (x.toNat, y.toNat)) b b' (prQ (stP b b') (stP w w') (x.toNat, y.toNat)).length) (stT (prQ (stP b b') (stP w w') (x.toNat, y.toNat)) w w' (prQ (stP b b') (stP w w') (x.toNat, y.toNat)).length)) (.i .i64 0))
  rw [stT_pro, stT_pro] at e
  generalize prQ (stP b b') (stP w w') (x.toNat, y.toNat) = Q at *
  have zz : ∀ (p q : Nat → Nat) i, Q.length ≤ i → proF Q p q i = 0 := fun p q i hi => by
    show (if i < Q.length then _ else 0) = 0
    rw [if_neg (by omega)]
  have lt : ∀ {p q : Nat → Nat}, Perm Q.length (proF Q p q) → ∀ i, proF Q p q i < 256 := fun {p q} hp i => by
    by_cases c : i < Q.length
    · have := hp.lt i c; omega
    · rw [zz p q i (by omega)]; omega
  obtain ⟨i1, m1, _⟩ := mor_has hP hD.pb.lt hD.pw.lt (fun x hx => (e3 x hx).1) e1
  obtain ⟨i2, m2, _⟩ := mor_has hP hD'.pb.lt hD'.pw.lt (fun x hx => (e3 x hx).2) e2
  exact .inl ⟨F, G, Q.length, _, _, rfl, rfl, e, d1, d2, desB_mk hP (zz _ _) (zz _ _), h16, hD.le, hD'.le, lt hP.pb, lt hP.pw, by omega, by omega, morL_len _ _ _ _ _, morL_len _ _ _ _ _⟩
end Go.Proofs.Ythjnmlpibafbnaa
