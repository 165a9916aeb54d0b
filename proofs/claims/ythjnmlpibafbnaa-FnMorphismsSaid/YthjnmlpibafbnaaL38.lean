import Derived.Test.YthjnmlpibafbnaaL21
import Derived.Test.YthjnmlpibafbnaaX34
import Derived.Test.YthjnmlpibafbnaaL33
import Derived.Test.YthjnmlpibafbnaaL9
namespace Go.Proofs.Ythjnmlpibafbnaa
open Go.RowKit DM
set_option linter.unusedVariables false
set_option linter.unusedSimpArgs false
theorem nmTo_at {F : List Nat} (hd : F.Nodup) : ∀ k, k ≤ F.length → ∀ j, j < k → nmTo F k (F.getD j 0) = j
  | 0, _, j, h => absurd h (Nat.not_lt_zero _)
  | k + 1, hk, j, h => by
    simp only [nmTo, up]
    by_cases e : j = k
    · subst e; rw [if_pos rfl]
    · rw [if_neg fun e2 => e (nodup_getD hd (by omega) (by omega) e2)]
      exact nmTo_at hd k (by omega) j (by omega)
theorem name_at {N : Nat} {b w : Nat → Nat} (hD : Des N b w) {y : Nat} (hy : y < N) {k : Nat} (hk : k < N) : nameF b w y ((bfsF b w y).getD k 0) = k := by
  obtain ⟨h1, h2, h3, h4, h5⟩ := bfs_all hD hy
  unfold nameF
  exact nmTo_at h1 _ (Nat.le_refl _) k (by omega)
theorem name_get {N : Nat} {b w : Nat → Nat} (hD : Des N b w) {y : Nat} (hy : y < N) {i : Nat} (hi : i < N) : nameF b w y i < N ∧ (bfsF b w y).getD (nameF b w y i) 0 = i := by
  obtain ⟨h1, h2, h3, h4, h5⟩ := bfs_all hD hy
  obtain ⟨t, ht, rfl⟩ := mem_getD (h4 i hi)
  rw [name_at hD hy (by omega)]
  exact ⟨by omega, rfl⟩
theorem name_perm {N : Nat} {b w : Nat → Nat} (hD : Des N b w) {y : Nat} (hy : y < N) : Perm N (nameF b w y) := by
  refine ⟨fun i hi => (name_get hD hy hi).1, fun i j hi hj e => ?_⟩
  have h1 := (name_get hD hy hi).2
  have h2 := (name_get hD hy hj).2
  rw [← h1, ← h2, e]
def Carry (n : Nat) (f : Nat → Nat) (s s' : List Nat × (Nat → Bool)) : Prop := s'.1 = s.1.map f ∧ ∀ x, x < n → s'.2 (f x) = s.2 x
theorem Carry.add {n : Nat} {f : Nat → Nat} (hf : ∀ x y, x < n → y < n → f x = f y → x = y) {s s' : List Nat × (Nat → Bool)} (h : Carry n f s s') {t : Nat} (ht : t < n) : Carry n f (bst t s) (bst (f t) s') := by
  unfold bst
  rw [h.2 t ht]
  cases hm : s.2 t with
  | true => exact h
  | false =>
    refine ⟨by simp [h.1], fun x hx => ?_⟩
    simp only [cond_false, up]
    by_cases e : x = t
    · subst e; simp
    · rw [if_neg e, if_neg fun e2 => e (hf x t hx ht e2)]
      exact h.2 x hx
theorem getD_map {f : Nat → Nat} {l : List Nat} {i : Nat} (hi : i < l.length) : (l.map f).getD i 0 = f (l.getD i 0) := by
  simp [List.getD_eq_getElem?_getD, List.getElem?_eq_getElem hi]
theorem Carry.run {n : Nat} (hn : n ≤ 16) {b w b' w' f : Nat → Nat} (hb : ∀ i, i < n → b i < n) (hw : ∀ i, i < n → w i < n) (hf : ∀ x y, x < n → y < n → f x = f y → x = y) (he : ∀ x, x < n → f (b x) = b' (f x) ∧ f (w x) = w' (f x)) : ∀ (k i : Nat) (s s' : List Nat × (Nat → Bool)), BInv n s → Carry n f s s' → Carry n f (brun b w k i s) (brun b' w' k i s')
  | 0, _, _, _, _, h => h
  | k + 1, i, s, s', hI, h => by
    simp only [brun]
    have hl : s'.1.length = s.1.length := by rw [h.1, List.length_map]
    by_cases hi : i < s.1.length
    · have hx := hI.get hi
      rw [if_pos hi, if_pos (by omega)]
      rw [h.1, getD_map hi, ← (he _ hx).1, ← (he _ hx).2]
      refine Carry.run hn hb hw hf he k (i + 1) _ _ (bmu_round hn hb hw hI hi).1 ?_
      exact (h.add hf (hb _ hx)).add hf (hw _ hx)
    · rw [if_neg hi, if_neg (by omega)]
      exact h
theorem bfs_map {n M : Nat} (hn : n ≤ 16) (hM : M ≤ 16) {b w b' w' f : Nat → Nat} (hb : ∀ i, i < n → b i < n) (hw : ∀ i, i < n → w i < n) (hb' : ∀ i, i < M → b' i < M) (hw' : ∀ i, i < M → w' i < M) (hf : ∀ x y, x < n → y < n → f x = f y → x = y) (hfM : ∀ x, x < n → f x < M) (he : ∀ x, x < n → f (b x) = b' (f x) ∧ f (w x) = w' (f x)) {x : Nat} (hx : x < n) : bfsF b' w' (f x) = (bfsF b w x).map f := by
  have h1 := brun_more hn hb hw (bmu 0 (bx x)) (bmu 0 (bx x) + bmu 0 (bx (f x))) 0 (bx x) (bx_inv hx hn) (Nat.le_refl _) (by omega)
  have h2 := brun_more hM hb' hw' (bmu 0 (bx (f x))) (bmu 0 (bx x) + bmu 0 (bx (f x))) 0 (bx (f x)) (bx_inv (hfM x hx) hM) (Nat.le_refl _) (by omega)
  have h3 := Carry.run hn hb hw hf he (bmu 0 (bx x) + bmu 0 (bx (f x))) 0 (bx x) (bx (f x)) (bx_inv hx hn) ⟨rfl, fun z hz => by
    simp only [bx, up]
    by_cases e : z = x
    · subst e; simp
    · rw [if_neg e, if_neg fun e2 => e (hf z x hz hx e2)]⟩
  unfold bfsF bres
  rw [h1, h2, h3.1]
end Go.Proofs.Ythjnmlpibafbnaa
namespace Go.Proofs.Ythjnmlpibafbnaa
open Go.RowKit DM
set_option linter.unusedVariables false
set_option linter.unusedSimpArgs false
def Ag (o : Nat → Int) (f : Nat → Nat) : Prop := ∀ z, 0 ≤ o z → o z = (f z : Int)
theorem MMid.go {n M : Nat} (hn : n ≤ 16) {b w b' w' : Nat → Nat} {F : List Nat} {R : Option (Nat → Int)} {i x a : Nat} {S s : List Nat × (Nat → Bool)} {k : Nat} {o : Nat → Int} (h : MMid n M b w b' w' F R i x a S k s o) {t c : Nat} (hp : (prs b w b' w' x a)[k]? = some (t, c)) (ht : t < n) (hc : c < M) :
    (R = none ∧ ∀ f : Nat → Nat, Ag o f → f t = c → False) ∨ ∃ s' o', MMid n M b w b' w' F R i x a S (k + 1) s' o' ∧ s.1 <+: s'.1 ∧ (∀ z, 0 ≤ o z → o' z = o z) ∧ o' t = (c : Int) ∧ ∀ f : Nat → Nat, Ag o f → f t = c → Ag o' f := by
  obtain ⟨h1, h2, h3⟩ := h.next hn hp ht hc
  by_cases e : o t < 0
  · refine .inr ⟨_, _, (h1 e).2, bst_pre t s, fun z hz => up_ne _ _ (fun e2 => by subst e2; omega), up_same _ _ _, fun f ha hf z hz => ?_⟩
    by_cases ez : z = t
    · subst ez; rw [up_same, hf]
    · rw [up_ne _ _ ez] at hz ⊢; exact ha z hz
  · by_cases e2 : o t = (c : Int)
    · exact .inr ⟨s, o, (h2 e e2).2, List.prefix_refl _, fun _ _ => rfl, e2, fun f ha _ => ha⟩
    · exact .inl ⟨h3 e e2, fun f ha hf => e2 (by rw [ha t (by omega), hf])⟩
theorem MInv.round {n M : Nat} (hn : n ≤ 16) {b w b' w' : Nat → Nat} (hb : ∀ i, i < n → b i < n) (hw : ∀ i, i < n → w i < n) (hb' : ∀ i, i < M → b' i < M) (hw' : ∀ i, i < M → w' i < M) {F : List Nat} {R : Option (Nat → Int)} {i : Nat} {s : List Nat × (Nat → Bool)} {o : Nat → Int} (h : MInv n M b w b' w' F R i s o) (hi : i < s.1.length) {x a : Nat} (hx : s.1.getD i 0 = x) (ha : o x = (a : Int)) :
    (R = none ∧ ∀ f : Nat → Nat, Ag o f → f (b x) = b' a → f (w x) = w' a → False) ∨ ∃ s' o', MInv n M b w b' w' F R (i + 1) s' o' ∧ bmu (i + 1) s' < bmu i s ∧ s.1 <+: s'.1 ∧ (∀ z, 0 ≤ o z → o' z = o z) ∧ o' (b x) = (b' a : Int) ∧ o' (w x) = (w' a : Int) ∧ ∀ f : Nat → Nat, Ag o f → f (b x) = b' a → f (w x) = w' a → Ag o' f := by
  obtain ⟨g1, g2, g3, g4⟩ := h.here hi
  have hmid := h.mid hi
  have hdone := fun s' o' => MMid.done hn hb hw h hi (s := s') (o := o')
  rw [hx] at g2 g3 g4 hmid hdone
  rw [ha, Int.toNat_natCast] at hmid hdone
  have haM : a < M := by omega
  rcases hmid.go hn (t := b x) (c := b' a) rfl (hb x g2) (hb' a haM) with ⟨r, hno⟩ | ⟨s1, o1, m1, p1, e1, v1, f1⟩
  · exact .inl ⟨r, fun f hf h1 _ => hno f hf h1⟩
  · rcases m1.go hn (t := w x) (c := w' a) rfl (hw x g2) (hw' a haM) with ⟨r, hno⟩ | ⟨s2, o2, m2, p2, e2, v2, f2⟩
    · exact .inl ⟨r, fun f hf h1 h2 => hno f (f1 f hf h1) h2⟩
    · obtain ⟨d1, d2⟩ := hdone s2 o2 m2
      refine .inr ⟨s2, o2, d1, d2, p1.trans p2, fun z hz => ?_, ?_, v2, fun f hf h1 h2 => f2 f (f1 f hf h1) h2⟩
      · have := e1 z hz
        rw [e2 z (by omega), this]
      · rw [e2 _ (by omega), v1]
def EqAt (b w b' w' : Nat → Nat) (o : Nat → Int) (x : Nat) : Prop := o (b x) = (b' (o x).toNat : Int) ∧ o (w x) = (w' (o x).toNat : Int)
def Eqv (n : Nat) (b w b' w' : Nat → Nat) (f : Nat → Nat) : Prop := ∀ x, x < n → f (b x) = b' (f x) ∧ f (w x) = w' (f x)
theorem MInv.goes {n M : Nat} (hn : n ≤ 16) {b w b' w' : Nat → Nat} (hb : ∀ i, i < n → b i < n) (hw : ∀ i, i < n → w i < n) (hb' : ∀ i, i < M → b' i < M) (hw' : ∀ i, i < M → w' i < M) {F : List Nat} {R : Option (Nat → Int)} : ∀ (K i : Nat) (s : List Nat × (Nat → Bool)) (o : Nat → Int), bmu i s ≤ K → MInv n M b w b' w' F R i s o → (∀ j, j < i → EqAt b w b' w' o (s.1.getD j 0)) →
    (R = none ∧ ∀ f : Nat → Nat, Ag o f → Eqv n b w b' w' f → False) ∨ ∃ o', R = some o' ∧ (∀ z, 0 ≤ o z → o' z = o z) ∧ (∀ x ∈ F, 0 ≤ o' x ∧ o' x < (M : Int) ∧ EqAt b w b' w' o' x) ∧ ∀ f : Nat → Nat, Ag o f → Eqv n b w b' w' f → Ag o' f := by
  intro K
  induction K with
  | zero =>
    intro i s o hK h he
    have hl := h.le
    have hi : ¬ i < s.1.length := by unfold bmu at hK; omega
    have hF : F = s.1 := by rw [← h.run, bres_end hi]
    refine .inr ⟨o, h.done hi, fun _ _ => rfl, fun x hx => ?_, fun f hf _ => hf⟩
    rw [hF] at hx
    refine ⟨(h.rel.met x).1 (h.rel.mem x hx), h.rel.hi x, ?_⟩
    obtain ⟨t, ht, rfl⟩ := mem_getD hx
    exact he t (by omega)
  | succ K ih =>
    intro i s o hK h he
    have hl := h.le
    by_cases hi : i < s.1.length
    · obtain ⟨g1, g2, g3, g4⟩ := h.here hi
      obtain ⟨a, ha⟩ : ∃ a : Nat, o (s.1.getD i 0) = (a : Int) := ⟨(o (s.1.getD i 0)).toNat, by omega⟩
      rcases h.round hn hb hw hb' hw' hi rfl ha with ⟨r, hno⟩ | ⟨s', o', m1, m2, p1, e1, v1, v2, f1⟩
      · refine .inl ⟨r, fun f hf hq => ?_⟩
        have h1 := hf _ g3
        have h2 : f (s.1.getD i 0) = a := by rw [ha] at h1; exact_mod_cast h1.symm
        have h3 := hq _ g2
        rw [h2] at h3
        exact hno f hf h3.1 h3.2
      · have hnew : ∀ j, j < i + 1 → EqAt b w b' w' o' (s'.1.getD j 0) := by
          intro j hj
          rw [pre_getD p1 (by omega)]
          rcases Nat.lt_succ_iff_lt_or_eq.1 hj with hj | rfl
          · have h1 := he j hj
            have h2 : 0 ≤ o (s.1.getD j 0) := (h.rel.met _).1 (h.rel.mem _ (getD_mem (by omega)))
            have h3 : 0 ≤ o (b (s.1.getD j 0)) := by rw [h1.1]; omega
            have h4 : 0 ≤ o (w (s.1.getD j 0)) := by rw [h1.2]; omega
            exact ⟨by rw [e1 _ h3, e1 _ h2]; exact h1.1, by rw [e1 _ h4, e1 _ h2]; exact h1.2⟩
          · exact ⟨by rw [v1, e1 _ g3, ha, Int.toNat_natCast], by rw [v2, e1 _ g3, ha, Int.toNat_natCast]⟩
        have hag : ∀ f : Nat → Nat, Ag o f → Eqv n b w b' w' f → Ag o' f := fun f hf hq => by
          have h1 := hf _ g3
          have h2 : f (s.1.getD i 0) = a := by rw [ha] at h1; exact_mod_cast h1.symm
          have h3 := hq _ g2
          rw [h2] at h3
          exact f1 f hf h3.1 h3.2
        rcases ih (i + 1) s' o' (by omega) m1 hnew with ⟨r, hno⟩ | ⟨o2, r, e2, h2, h3⟩
        · exact .inl ⟨r, fun f hf hq => hno f (hag f hf hq) hq⟩
        · exact .inr ⟨o2, r, fun z hz => by have := e1 z hz; rw [e2 z (by omega), this], h2, fun f hf hq => h3 f (hag f hf hq) hq⟩
    · have hF : F = s.1 := by rw [← h.run, bres_end hi]
      refine .inr ⟨o, h.done hi, fun _ _ => rfl, fun x hx => ?_, fun f hf _ => hf⟩
      rw [hF] at hx
      refine ⟨(h.rel.met x).1 (h.rel.mem x hx), h.rel.hi x, ?_⟩
      obtain ⟨t, ht, rfl⟩ := mem_getD hx
      exact he t (by omega)
theorem mor_spec {N M : Nat} {b w b' w' : Nat → Nat} (hD : Des N b w) (hb' : ∀ i, i < M → b' i < M) (hw' : ∀ i, i < M → w' i < M) {y : Nat} (hy : y < M) :
    (morF b w b' w' y = none ∧ ∀ f : Nat → Nat, f 0 = y → Eqv N b w b' w' f → False) ∨ ∃ o, morF b w b' w' y = some o ∧ o 0 = (y : Int) ∧ (∀ x, x < N → 0 ≤ o x ∧ o x < (M : Int) ∧ EqAt b w b' w' o x) ∧ ∀ f : Nat → Nat, f 0 = y → Eqv N b w b' w' f → ∀ x, x < N → o x = (f x : Int) := by
  have hst := MInv.start (b := b) (w := w) (b' := b') (w' := w') (M := M) hD.pos hD.le hy
  have hall := (bfs_all hD (y := 0) hD.pos).2.2.2.1
  have hag : ∀ f : Nat → Nat, f 0 = y → Ag (mo0 y) f := fun f hf z hz => by
    unfold mo0 at hz ⊢
    by_cases e : z = 0
    · subst e; rw [if_pos rfl, hf]
    · rw [if_neg e] at hz; omega
  rcases MInv.goes hD.le hD.pb.lt hD.pw.lt hb' hw' _ 0 _ _ (Nat.le_refl _) hst (fun j hj => absurd hj (Nat.not_lt_zero _)) with ⟨r, hno⟩ | ⟨o, r, e, h1, h2⟩
  · exact .inl ⟨r, fun f hf hq => hno f (hag f hf) hq⟩
  · refine .inr ⟨o, r, ?_, fun x hx => h1 x (hall x hx), fun f hf hq x hx => h2 f (hag f hf) hq x (h1 x (hall x hx)).1⟩
    rw [e 0 (by unfold mo0; rw [if_pos rfl]; omega)]
    unfold mo0; rw [if_pos rfl]
theorem renTo_out {N : Nat} {p b : Nat → Nat} (hp : ∀ i, i < N → p i < N) : ∀ k, k ≤ N → ∀ j, N ≤ j → renTo p b k j = 0
  | 0, _, _, _ => rfl
  | k + 1, hk, j, hj => by
    simp only [renTo, up]
    have := hp k (by omega)
    rw [if_neg (by omega)]
    exact renTo_out hp k (by omega) j hj
theorem eq16_of {f g : Nat → Nat} (h : ∀ j, f j = g j) : ∀ n i, eq16 f g i n = true
  | 0, _ => rfl
  | n + 1, i => by simp only [eq16, h i, decide_true, Bool.true_and]; exact eq16_of h n (i + 1)
theorem inj_of_onto {n : Nat} {f : Nat → Nat} (h : ∀ z, z < n → ∃ x, x < n ∧ f x = z) : ∀ x y, x < n → y < n → f x = f y → x = y := by
  intro x y hx hy e
  refine Classical.byContradiction fun hne => ?_
  have hl : ((List.range n).erase y).length = n - 1 := by rw [List.length_erase_of_mem (List.mem_range.2 hy), List.length_range]
  have := nodup_sub (List.range n) (((List.range n).erase y).map f) List.nodup_range fun z hz => by
    obtain ⟨u, hu, rfl⟩ := h z (List.mem_range.1 hz)
    by_cases eu : u = y
    · subst eu
      rw [← e]
      exact List.mem_map.2 ⟨x, (List.mem_erase_of_ne hne).2 (List.mem_range.2 hx), rfl⟩
    · exact List.mem_map.2 ⟨u, (List.mem_erase_of_ne eu).2 (List.mem_range.2 hu), rfl⟩
  rw [List.length_map, List.length_range, hl] at this
  omega
def isoB (N : Nat) (b w b' w' : Nat → Nat) (y : Nat) : Bool := eqDs N (renTo (nameF b' w' y) b' N) (renTo (nameF b' w' y) w' N) N (renTo (nameF b w 0) b N) (renTo (nameF b w 0) w N)
def isoP (N : Nat) (b w b' w' : Nat → Nat) (y : Nat) : Nat → Nat := fillF (fun i => backTo (nameF b' w' y) N (nameF b w 0 i)) N
theorem iso_step {N : Nat} {b w b' w' : Nat → Nat} (hD : Des N b w) (hD' : Des N b' w') {y : Nat} (hy : y < N) :
    (morF b w b' w' y = none ∧ isoB N b w b' w' y = false) ∨ ∃ o, morF b w b' w' y = some o ∧ isoB N b w b' w' y = true ∧ (∀ t, t < N → 0 ≤ o t ∧ o t < (N : Int)) ∧ isoP N b w b' w' y = fillF (fun t => (o t).toNat) N := by
  have h00 : 0 < N := hD.pos
  have hN := hD.le
  have hn0 := name_perm hD h00
  have hm := name_perm hD' hy
  obtain ⟨a1, a2, a3, a4, a5⟩ := bfs_all hD h00
  obtain ⟨c1, c2, c3, c4, c5⟩ := bfs_all hD' hy
  have back_of : ∀ x z, x < N → z < N → nameF b' w' y z = nameF b w 0 x → backTo (nameF b' w' y) N (nameF b w 0 x) = z := fun x z hx hz e => by
    rw [← e]; exact backTo_at hm N (Nat.le_refl _) z hz
  rcases mor_spec hD hD'.pb.lt hD'.pw.lt hy with ⟨r, hno⟩ | ⟨o, r, h0, h1, h2⟩
  · refine .inl ⟨r, ?_⟩
    cases hB : isoB N b w b' w' y with
    | false => rfl
    | true =>
      exfalso
      unfold isoB eqDs at hB
      simp only [Bool.and_eq_true] at hB
      obtain ⟨_, e1, e2, _⟩ := hB
      have key : ∀ (v v' : Nat → Nat), (∀ i, i < N → v i < N) → (∀ i, i < N → v' i < N) → eq16 (renTo (nameF b' w' y) v' N) (renTo (nameF b w 0) v N) 0 16 = true → ∀ i, i < N → (bfsF b' w' y).getD (nameF b w 0 (v i)) 0 = v' ((bfsF b' w' y).getD (nameF b w 0 i) 0) := by
        intro v v' hv hv' he i hi
        have g1 := name_get hD h00 hi
        have g2 : (bfsF b' w' y).getD (nameF b w 0 i) 0 < N := c2 _ (getD_mem (by omega))
        have g3 := name_at hD' hy g1.1
        have g4 := eq16_get he (nameF b w 0 i) (by omega)
        rw [Nat.zero_add, renTo_at hn0 v N (Nat.le_refl _) i hi] at g4
        have g5 := renTo_at hm v' N (Nat.le_refl _) _ g2
        rw [g3, g4] at g5
        rw [g5]
        exact (name_get hD' hy (hv' _ g2)).2
      refine hno (fun i => (bfsF b' w' y).getD (nameF b w 0 i) 0) ?_ fun i hi => ⟨key b b' hD.pb.lt hD'.pb.lt e1 i hi, key w w' hD.pw.lt hD'.pw.lt e2 i hi⟩
      have := name_at hD h00 h00
      rw [a5] at this
      show (bfsF b' w' y).getD (nameF b w 0 0) 0 = y
      rw [this]; exact c5
  · have hf0 : (o 0).toNat = y := by rw [h0]; exact Int.toNat_natCast _
    have hfM : ∀ x, x < N → (o x).toNat < N := fun x hx => by have := h1 x hx; omega
    have hq : ∀ x, x < N → (o (b x)).toNat = b' (o x).toNat ∧ (o (w x)).toNat = w' (o x).toNat := fun x hx => by
      have := (h1 x hx).2.2
      rw [this.1, this.2]; exact ⟨Int.toNat_natCast _, Int.toNat_natCast _⟩
    have honto : ∀ z, z < N → ∃ x, x < N ∧ (o x).toNat = z := by
      have hmin : ∀ S : Nat → Prop, S y → Cl N b' w' S → ∀ z ∈ bfsF b' w' y, S z := (bfs_q hN hD'.pb.lt hD'.pw.lt hy).1.min
      intro z hz
      refine hmin (fun z => ∃ x, x < N ∧ (o x).toNat = z) ⟨0, h00, hf0⟩ ?_ z (c4 z hz)
      rintro z hz ⟨x, hx, rfl⟩
      exact ⟨⟨b x, hD.pb.lt x hx, (hq x hx).1⟩, ⟨w x, hD.pw.lt x hx, (hq x hx).2⟩⟩
    have hinj := inj_of_onto honto
    have hG := bfs_map hN hN hD.pb.lt hD.pw.lt hD'.pb.lt hD'.pw.lt (f := fun x => (o x).toNat) hinj hfM hq h00
    simp only [hf0] at hG
    have hnm : ∀ i, i < N → nameF b' w' y (o i).toNat = nameF b w 0 i := fun i hi => by
      have g1 := name_get hD h00 hi
      have g2 : (bfsF b' w' y).getD (nameF b w 0 i) 0 = (o i).toNat := by
        rw [hG, getD_map (f := fun x => (o x).toNat) (by omega), g1.2]
      have g3 := name_at hD' hy g1.1
      rwa [g2] at g3
    refine .inr ⟨o, r, ?_, fun t ht => ⟨(h1 t ht).1, (h1 t ht).2.1⟩, ?_⟩
    · have key : ∀ (v v' : Nat → Nat), (∀ i, i < N → v i < N) → (∀ i, i < N → (o (v i)).toNat = v' (o i).toNat) → ∀ j, renTo (nameF b' w' y) v' N j = renTo (nameF b w 0) v N j := by
        intro v v' hv he j
        by_cases hj : j < N
        · have g1 := name_at hD h00 hj
          have g0 : (bfsF b w 0).getD j 0 < N := a2 _ (getD_mem (by omega))
          have g2 := renTo_at hn0 v N (Nat.le_refl _) _ g0
          have g3 := renTo_at hm v' N (Nat.le_refl _) _ (hfM _ g0)
          rw [hnm _ g0, g1, ← he _ g0, hnm _ (hv _ g0)] at g3
          rw [g1] at g2
          rw [g3, g2]
        · rw [renTo_out hm.lt N (Nat.le_refl _) j (by omega), renTo_out hn0.lt N (Nat.le_refl _) j (by omega)]
      unfold isoB eqDs
      rw [eq16_of (key b b' hD.pb.lt fun i hi => (hq i hi).1), eq16_of (key w w' hD.pw.lt fun i hi => (hq i hi).2)]
      simp
    · unfold isoP
      funext i
      unfold fillF
      by_cases hi : i < N
      · rw [if_pos hi, if_pos hi]
        exact back_of i _ hi (hfM i hi) (hnm i hi)
      · rw [if_neg hi, if_neg hi]
def isoL (N : Nat) (b w b' w' : Nat → Nat) : Nat → List (Nat → Nat)
  | 0 => []
  | k + 1 => bif isoB N b w b' w' k then isoL N b w b' w' k ++ [isoP N b w b' w' k] else isoL N b w b' w' k
theorem isoL_len (N : Nat) (b w b' w' : Nat → Nat) : ∀ k, (isoL N b w b' w' k).length ≤ k
  | 0 => Nat.le_refl _
  | k + 1 => by
    have := isoL_len N b w b' w' k
    simp only [isoL]
    cases isoB N b w b' w' k
    · exact Nat.le_succ_of_le this
    · simp; omega
end Go.Proofs.Ythjnmlpibafbnaa

namespace Go.Proofs.Ythjnmlpibafbnaa
open Go.RowKit DM
set_option linter.unusedVariables false
set_option linter.unusedSimpArgs false
def prU (p : Nat × Nat) : Nat → Dat := fup (fup (fun _ => .i .u8 0) 0 (.i .u8 (p.1 : Int))) 1 (.i .u8 (p.2 : Int))
theorem sc_prU (k : Nat) (p : Nat × Nat) (i : Nat) : Sc k (prU p i) := by
  unfold prU fup
  cases Nat.beq i 1
  · cases Nat.beq i 0 <;> trivial
  · trivial
theorem sc_prUv (k : Nat) (p : Nat × Nat) : Sc k (.ar 2 1 (prU p)) := fun i _ => sc_prU k p i
theorem sc_prUr (k n : Nat) (e : Go.TypeId) (P : Nat → Nat × Nat) : Sc k (.ow e n 2 (fun j => .ar 2 1 (prU (P j)))) := fun i _ => sc_prUv k _
theorem pl_prU (p : Nat × Nat) (i : Nat) : Pl (prU p i) := by
  unfold prU fup
  cases Nat.beq i 1
  · cases Nat.beq i 0 <;> trivial
  · trivial
def prUF (Q : List (Nat × Nat)) (j : Nat) : Dat := .ar 2 1 (prU (Q.getD j (0, 0)))
theorem sc_prUF (k n : Nat) (e : Go.TypeId) (Q : List (Nat × Nat)) : Sc k (.ow e n 2 (prUF Q)) := fun i _ => sc_prUv k _
theorem sc_two {k : Nat} {a b c : IntKind} {x y z : Int} : Sc k (.ar 2 1 (fup (fup (fun _ => .i a x) 0 (.i b y)) 1 (.i c z))) := fun i _ => by
  unfold fup
  cases Nat.beq i 1
  · cases Nat.beq i 0 <;> trivial
  · trivial
theorem pl_two {a b c : IntKind} {x y z : Int} : Pl (.ar 2 1 (fup (fup (fun _ => .i a x) 0 (.i b y)) 1 (.i c z))) := fun i _ => by
  unfold fup
  cases Nat.beq i 1
  · cases Nat.beq i 0 <;> trivial
  · trivial
def qrU (a b : Nat × Nat) : Nat → Dat := fup (fup (fun _ => .ar 2 1 (fun _ => .i .u8 0)) 0 (.ar 2 1 (prU a))) 1 (.ar 2 1 (prU b))
theorem sc_qrU (k : Nat) (a b : Nat × Nat) : Sc k (.ar 2 2 (qrU a b)) := by
  intro i _
  unfold qrU fup
  cases Nat.beq i 1
  · cases Nat.beq i 0
    · exact fun _ _ => trivial
    · exact sc_prUv k _
  · exact sc_prUv k _
theorem pl_prUv (p : Nat × Nat) : Pl (.ar 2 1 (prU p)) := fun i _ => pl_prU p i
theorem wf_prUv (p : Nat × Nat) : WF (.ar 2 1 (prU p)) := fun i _ => by
  unfold prU fup
  cases Nat.beq i 1
  · cases Nat.beq i 0 <;> exact ⟨rfl, trivial⟩
  · exact ⟨rfl, trivial⟩
theorem pl_qrU (a b : Nat × Nat) : Pl (.ar 2 2 (qrU a b)) := by
  intro i _
  unfold qrU fup
  cases Nat.beq i 1
  · cases Nat.beq i 0
    · exact fun _ _ => trivial
    · exact pl_prUv _
  · exact pl_prUv _
theorem ok_qrU (a b : Nat × Nat) : Ok (.ar 2 2 (qrU a b)) := by
  refine ⟨fun i _ => ?_, pl_qrU a b⟩
  unfold qrU fup
  cases Nat.beq i 1
  · cases Nat.beq i 0
    · exact ⟨rfl, fun _ _ => ⟨rfl, trivial⟩⟩
    · exact ⟨rfl, wf_prUv _⟩
  · exact ⟨rfl, wf_prUv _⟩
theorem ap_prUF (Q : List (Nat × Nat)) (y : Nat × Nat) (z : Dat) (j : Nat) (hj : j < Q.length + 1) : prUF (Q ++ [y]) j = apF Q.length (prUF Q) 0 (fup (fun _ => z) 0 (.ar 2 1 (prU y))) j := by
  unfold apF prUF
  by_cases h : j < Q.length
  · rw [blt_true h, getD_snoc_lt Q y _ h]; rfl
  · have e : j = Q.length := by omega
    subst e
    rw [blt_false (Nat.lt_irrefl _), getD_snoc]
    simp [fup]
end Go.Proofs.Ythjnmlpibafbnaa
