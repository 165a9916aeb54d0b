import Derived.Test.YtakapfgjdhliaaaL41
import Derived.Test.YtakapfgjdhliaaaX12
import Derived.Test.YtakapfgjdhliaaaL11
import Derived.Test.YtakapfgjdhliaaaD39
/- Types of a group's elements, each once, and how often. -/
namespace Go.Proofs.Ytakapfgjdhliaaa
open Go.RowKit DM
set_option linter.unusedVariables false
set_option linter.unusedSimpArgs false

/-- A list of a group's elements, each once. -/
structure ElOk (N : Nat) (L : List (Nat → Nat)) (E : List (Nat → Nat)) : Prop where
  nodup : E.Nodup
  mem : ∀ r, r ∈ E ↔ Grp N L r
noncomputable def elG (N : Nat) (L : List (Nat → Nat)) : List (Nat → Nat) := @dite _ (∃ E, ElOk N L E) (Classical.propDecidable _) (fun h => Classical.choose h) fun _ => []
theorem ElOk.perm {N : Nat} {L E : List (Nat → Nat)} (h : ElOk N L E) : E.Perm (elG N L) := by
  have h2 : ElOk N L (elG N L) := by
    unfold elG
    rw [dif_pos ⟨E, h⟩]
    exact Classical.choose_spec (⟨E, h⟩ : ∃ E, ElOk N L E)
  classical
  exact (List.perm_ext_iff_of_nodup h.nodup h2.nodup).2 fun r => by rw [h.mem, h2.mem]

theorem els_ok {N : Nat} (hN : N ≤ 16) {L : List (Nat → Nat)} (hL : ∀ g ∈ L, Np N g) {has : Nat → Nat → Bool} {tab : Nat → Nat → Nat → Nat} (hT : TblOk N has tab) (h : ∀ g, Np N g → (InT N has tab N g ↔ Grp N L g)) : ElOk N L (elsE N has tab N) where
  nodup := els_nodup hN hT (Nat.le_refl _)
  mem := fun r => by
    rw [els_mem hN hT (Nat.le_refl _)]
    exact ⟨fun h1 => (h r (InT.np hT (Nat.le_refl _) h1).1).1 h1, fun h1 => (h r (h1.np hL)).2 h1⟩

end Go.Proofs.Ytakapfgjdhliaaa

/- A group has a table; how many elements and types it has at most. -/
namespace Go.Proofs.Ytakapfgjdhliaaa
open Go.RowKit DM
set_option linter.unusedVariables false
set_option linter.unusedSimpArgs false

noncomputable def tabG (N : Nat) (L : List (Nat → Nat)) (i k : Nat) : Nat → Nat :=
  @ite _ (k = i) (Nat.decEq _ _) (sameF N) (@dite _ (∃ g, Grp N L g ∧ (∀ j, j < i → g j = j) ∧ g i = k) (Classical.propDecidable _) (fun h => Classical.choose h) fun _ _ => 0)

theorem tellB_iff {N : Nat} {L : List (Nat → Nat)} {i k : Nat} : tellB N L i k = true ↔ ∃ g, Grp N L g ∧ (∀ j, j < i → g j = j) ∧ g i = k := @decide_eq_true_iff _ (Classical.propDecidable _)

theorem tabG_ok {N : Nat} {L : List (Nat → Nat)} {i k : Nat} (hi : i < N) (h : tellB N L i k = true) : Grp N L (tabG N L i k) ∧ (∀ j, j < i → tabG N L i k j = j) ∧ tabG N L i k i = k := by
  unfold tabG
  by_cases e : k = i
  · rw [if_pos e, e]
    exact ⟨.one, fun j hj => one_at (by omega), one_at hi⟩
  · rw [if_neg e]
    have h := tellB_iff.1 h
    rw [dif_pos h]
    exact Classical.choose_spec h

theorem tblG {N : Nat} {L : List (Nat → Nat)} (hL : ∀ g ∈ L, Np N g) : TblOk N (tellB N L) (tabG N L) where
  diag := fun i hi => ⟨tellB_iff.2 ⟨_, .one, fun j hj => one_at (by omega), one_at hi⟩, by unfold tabG; rw [if_pos rfl]⟩
  lt := fun i k hi h => by
    obtain ⟨g, hg, _, e⟩ := tellB_iff.1 h
    rw [← e]; exact (hg.np hL).perm.lt i hi
  np := fun i k hi h => (tabG_ok hi h).1.np hL
  fix := fun i k hi h => (tabG_ok hi h).2.1
  at_ := fun i k hi h => (tabG_ok hi h).2.2

theorem allG {N : Nat} (hN : N ≤ 16) {L : List (Nat → Nat)} (hL : ∀ g ∈ L, Np N g) : ∀ d, d ≤ N → ∀ g, Grp N L g → (∀ j, j < N - d → g j = j) → InT N (tellB N L) (tabG N L) d g
  | 0, _, g, hg, hf => by
    show g = sameF N
    exact np_ext (hg.np hL) (one_np N) fun i hi => by rw [hf i (by omega), one_at hi]
  | d + 1, hd, g, hg, hf => by
    have hi : N - (d + 1) < N := by omega
    have hh : tellB N L (N - (d + 1)) (g (N - (d + 1))) = true := tellB_iff.2 ⟨g, hg, hf, rfl⟩
    obtain ⟨h1, h2⟩ := left_fix hN (tblG hL) hi (hg.np hL) hf hh
    refine (InT.peel hN (tblG hL) hd).2 ⟨hg.np hL, hh, allG hN hL d (by omega) _ (hg.comp hL ((tabG_ok hi hh).1.inv hN hL)) fun j hj => h2 j (by omega)⟩

theorem elG_ok {N : Nat} (hN : N ≤ 16) {L : List (Nat → Nat)} (hL : ∀ g ∈ L, Np N g) : ElOk N L (elG N L) ∧ (elG N L).length ≤ ordG N L := by
  have hT := tblG (N := N) hL
  have hE : ElOk N L (elsE N (tellB N L) (tabG N L) N) := els_ok hN hL hT fun g hg => ⟨fun h => InT.grp hT hL (fun i k hi h => (tabG_ok hi h).1) (Nat.le_refl _) h, fun h => allG hN hL N (Nat.le_refl _) g h fun j hj => absurd hj (by omega)⟩
  have hp := hE.perm
  refine ⟨⟨hp.nodup_iff.1 hE.nodup, fun r => by rw [← hp.mem_iff]; exact hE.mem r⟩, ?_⟩
  rw [← hp.length_eq]
  have := els_le hN hT (Nat.le_refl N)
  rw [hT.ord16 hN] at this
  exact this

end Go.Proofs.Ytakapfgjdhliaaa

/- Regular dessins: as many automorphisms as darts exactly if the group has as many elements. -/
namespace Go.Proofs.Ytakapfgjdhliaaa
open Go.RowKit DM
set_option linter.unusedVariables false

theorem elG_len {N : Nat} (hN : N ≤ 16) {L : List (Nat → Nat)} (hL : ∀ g ∈ L, Np N g) : (elG N L).length = ordG N L := by
  have hT := tblG (N := N) hL
  have hE : ElOk N L (elsE N (tellB N L) (tabG N L) N) := els_ok hN hL hT fun g hg => ⟨fun h => InT.grp hT hL (fun i k hi h => (tabG_ok hi h).1) (Nat.le_refl _) h, fun h => allG hN hL N (Nat.le_refl _) g h fun j hj => absurd hj (by omega)⟩
  rw [← hE.perm.length_eq]
  have h1 := els_len hN (has := tellB N L) (tabG N L) N (Nat.le_refl _)
  rw [Nat.sub_self] at h1
  have h2 : ordF 16 (tellB N L) 0 = 1 := rfl
  rw [h2, Nat.mul_one, hT.ord16 hN] at h1
  exact h1

section
variable {N : Nat} {b w : Nat → Nat}

theorem two_np (hb : Np N b) (hw : Np N w) : ∀ g ∈ [b, w], Np N g := fun g hg => by
  rcases List.mem_cons.1 hg with rfl | hg
  · exact hb
  · rw [List.mem_singleton.1 hg]; exact hw

/-- The group leads 0 to each dart. -/
theorem grp_trans (hD : Des N b w) {x : Nat} (hx : x < N) : ∃ g, Grp N [b, w] g ∧ g 0 = x :=
  des_all hD hD.pos (S := fun x => ∃ g, Grp N [b, w] g ∧ g 0 = x) ⟨_, .one, one_at hD.pos⟩ (fun z hz ⟨g, h1, h2⟩ => ⟨⟨mulF N g b, .mul h1 (List.mem_cons_self ..), by rw [mul_at hD.pos, h2]⟩, ⟨mulF N g w, .mul h1 (List.mem_cons_of_mem _ (List.mem_singleton.2 rfl)), by rw [mul_at hD.pos, h2]⟩⟩) hx

/-- Maps that go with the permutations go with the group. -/
theorem grp_comm (hb : Np N b) (hw : Np N w) {f : Nat → Nat} (hf : Eqv N b w b w f) (hl : ∀ x, x < N → f x < N) {g : Nat → Nat} (hg : Grp N [b, w] g) : ∀ x, x < N → f (g x) = g (f x) := by
  induction hg with
  | one => intro x hx; rw [one_at hx, one_at (hl x hx)]
  | @mul p q hp hq ih =>
    intro x hx
    have hpx := (hp.np (two_np hb hw)).perm.lt x hx
    rw [mul_at hx, mul_at (hl x hx), ← ih x hx]
    rcases List.mem_cons.1 hq with rfl | hq
    · exact (hf _ hpx).1
    · rw [List.mem_singleton.1 hq]; exact (hf _ hpx).2

theorem nodup_map_inj {E : List (Nat → Nat)} {F : (Nat → Nat) → Nat} (hE : E.Nodup) (h : ∀ g ∈ E, ∀ k ∈ E, F g = F k → g = k) : (E.map F).Nodup := by
  unfold List.Nodup
  rw [List.pairwise_map]
  exact List.Pairwise.imp_of_mem (fun hg hk hne e => hne (h _ hg _ hk e)) hE

theorem map_inj_of_onto [DecidableEq (Nat → Nat)] {E : List (Nat → Nat)} {F : (Nat → Nat) → Nat} {n : Nat} (hE : E.Nodup) (hl : E.length = n) (ho : ∀ x, x < n → ∃ g ∈ E, F g = x) : ∀ g ∈ E, ∀ k ∈ E, F g = F k → g = k := by
  intro g hg k hk e
  refine Classical.byContradiction fun hne => ?_
  have h1 : ((E.erase k).map F).length = n - 1 := by rw [List.length_map, List.length_erase_of_mem hk, hl]
  have h2 := nodup_sub (List.range n) ((E.erase k).map F) List.nodup_range fun x hx => by
    obtain ⟨u, hu, rfl⟩ := ho x (List.mem_range.1 hx)
    by_cases eu : u = k
    · subst eu
      rw [← e]
      exact List.mem_map.2 ⟨g, (List.mem_erase_of_ne hne).2 hg, rfl⟩
    · exact List.mem_map.2 ⟨u, (List.mem_erase_of_ne eu).2 hu, rfl⟩
  rw [List.length_range, h1] at h2
  have : 0 < E.length := List.length_pos_of_mem hk
  omega

theorem regular_iff (hD : Des N b w) (hb : Np N b) (hw : Np N w) : (isoL N b w b w N).length = N ↔ ordG N [b, w] = N := by
  have hN := hD.le
  have hL := two_np hb hw
  have hE := (elG_ok hN hL).1
  have hlen := elG_len hN hL
  rw [← hlen]
  constructor
  · intro h
    have hall : ∀ y, y < N → isoB N b w b w y = true := fun y hy => by
      rw [isoL_count] at h
      have := List.length_filter_eq_length_iff.1 (h.trans List.length_range.symm)
      exact this y (List.mem_range.2 hy)
    have hinj : ∀ g ∈ elG N [b, w], ∀ k ∈ elG N [b, w], g 0 = k 0 → g = k := fun g hg k hk e => by
      have h1 := (hE.mem g).1 hg
      have h2 := (hE.mem k).1 hk
      refine np_ext (h1.np hL) (h2.np hL) fun y hy => ?_
      obtain ⟨a1, a2, a3, _⟩ := iso_of hD hD hy (hall y hy)
      have c1 := grp_comm hb hw a3 a1.lt h1 0 hD.pos
      have c2 := grp_comm hb hw a3 a1.lt h2 0 hD.pos
      rw [a2] at c1 c2
      rw [← c1, ← c2, e]
    have hnd := nodup_map_inj (F := fun g => g 0) hE.nodup hinj
    have l1 := nodup_sub _ (List.range N) hnd fun x hx => by
      obtain ⟨g, hg, rfl⟩ := List.mem_map.1 hx
      exact List.mem_range.2 ((((hE.mem g).1 hg).np hL).perm.lt 0 hD.pos)
    have l2 := nodup_sub (List.range N) ((elG N [b, w]).map fun g => g 0) List.nodup_range fun x hx => by
      obtain ⟨g, hg, e⟩ := grp_trans hD (List.mem_range.1 hx)
      exact List.mem_map.2 ⟨g, (hE.mem g).2 hg, e⟩
    rw [List.length_map, List.length_range] at l1 l2
    omega
  · intro h
    classical
    have hinj := map_inj_of_onto (F := fun g => g 0) hE.nodup h fun x hx => by
      obtain ⟨g, hg, e⟩ := grp_trans hD hx
      exact ⟨g, (hE.mem g).2 hg, e⟩
    have hG : ∀ x, x < N → ∃ g, Grp N [b, w] g ∧ g 0 = x := fun x hx => grp_trans hD hx
    let G : Nat → Nat → Nat := fun x => if hx : x < N then Classical.choose (hG x hx) else fun _ => 0
    have hG1 : ∀ x, x < N → Grp N [b, w] (G x) ∧ G x 0 = x := fun x hx => by
      show Grp N [b, w] (if hx : x < N then Classical.choose (hG x hx) else fun _ => 0) ∧ (if hx : x < N then Classical.choose (hG x hx) else fun _ => 0) 0 = x
      rw [dif_pos hx]; exact Classical.choose_spec (hG x hx)
    have uniq : ∀ x g, x < N → Grp N [b, w] g → g 0 = x → g = G x := fun x g hx hg e => hinj g ((hE.mem g).2 hg) _ ((hE.mem _).2 (hG1 x hx).1) (e.trans (hG1 x hx).2.symm)
    have hall : ∀ y, y < N → isoB N b w b w y = true := fun y hy => by
      refine iso_true hD hD hy (f := fun x => G x y) ?_ fun x hx => ?_
      · show G 0 y = y
        rw [← uniq 0 _ hD.pos .one (one_at hD.pos)]; exact one_at hy
      · have g1 := hG1 x hx
        refine ⟨?_, ?_⟩
        · show G (b x) y = b (G x y)
          rw [← uniq (b x) _ (hD.pb.lt x hx) (.mul g1.1 (by simp : b ∈ [b, w])) (by rw [mul_at hD.pos, g1.2]), mul_at hy]
        · show G (w x) y = w (G x y)
          rw [← uniq (w x) _ (hD.pw.lt x hx) (.mul g1.1 (by simp : w ∈ [b, w])) (by rw [mul_at hD.pos, g1.2]), mul_at hy]
    rw [isoL_count]
    refine (List.length_filter_eq_length_iff.2 fun y hy => hall y (List.mem_range.1 hy)).trans List.length_range
end

end Go.Proofs.Ytakapfgjdhliaaa

/- Canonical dessins are the same exactly if the dessins are isomorphic. -/
namespace Go.Proofs.Ytakapfgjdhliaaa
open Go.RowKit DM
set_option linter.unusedVariables false

theorem cmp_neg (p q : Nat → Nat) : ∀ m i, cmpF q p m i = - cmpF p q m i
  | 0, _ => rfl
  | m + 1, i => by
    unfold cmpF
    by_cases h1 : p i < q i
    · rw [if_pos h1, if_neg (by omega), if_pos h1]; rfl
    · by_cases h2 : q i < p i
      · rw [if_pos h2, if_neg h1, if_pos h2]
      · rw [if_neg h2, if_neg h1, if_neg h1, if_neg h2]; exact cmp_neg p q m (i + 1)
theorem cmp_trans (p q r : Nat → Nat) : ∀ m i, cmpF p q m i ≤ 0 → cmpF q r m i ≤ 0 → cmpF p r m i ≤ 0
  | 0, _, _, _ => by simp [cmpF]
  | m + 1, i, h1, h2 => by
    unfold cmpF at h1 h2 ⊢
    by_cases a1 : p i < q i
    · by_cases a2 : q i < r i
      · rw [if_pos (by omega)]; omega
      · rw [if_neg a2] at h2
        by_cases a3 : r i < q i
        · rw [if_pos a3] at h2; omega
        · rw [if_pos (by omega)]; omega
    · rw [if_neg a1] at h1
      by_cases a2 : q i < p i
      · rw [if_pos a2] at h1; omega
      · rw [if_neg a2] at h1
        by_cases a3 : q i < r i
        · rw [if_pos (by omega)]; omega
        · rw [if_neg a3] at h2
          by_cases a4 : r i < q i
          · rw [if_pos a4] at h2; omega
          · rw [if_neg a4] at h2
            rw [if_neg (by omega), if_neg (by omega)]
            exact cmp_trans p q r m (i + 1) h1 h2
theorem cmp_eq_l {p q : Nat → Nat} (r : Nat → Nat) : ∀ m i, cmpF p q m i = 0 → cmpF p r m i = cmpF q r m i := fun m i h => by
  have e := (cmpF_zero p q m i).1 h
  clear h
  induction m generalizing i with
  | zero => rfl
  | succ m ih =>
    unfold cmpF
    rw [e i (Nat.le_refl _) (by omega), ih (i + 1) fun j h1 h2 => e j (by omega) (by omega)]

/-- A pair of permutations. -/
abbrev Pr := (Nat → Nat) × (Nat → Nat)
def cdP (x y : Pr) : Int := cdF x.1 x.2 y.1 y.2
theorem cd_neg (x y : Pr) : cdP y x = - cdP x y := by
  unfold cdP cdF
  rw [cmp_neg x.1 y.1, cmp_neg x.2 y.2]
  by_cases h : cmpF x.1 y.1 16 0 = 0
  · rw [if_neg (by omega), if_neg (by omega)]
  · rw [if_pos (by omega), if_pos (by omega)]
theorem cd_trans {x y z : Pr} (h1 : cdP x y ≤ 0) (h2 : cdP y z ≤ 0) : cdP x z ≤ 0 := by
  unfold cdP cdF at *
  by_cases a : cmpF x.1 y.1 16 0 = 0
  · rw [if_neg (by omega)] at h1
    have e := cmp_eq_l z.1 16 0 a
    by_cases c : cmpF y.1 z.1 16 0 = 0
    · rw [if_neg (by omega)] at h2
      rw [if_neg (by omega)]
      exact cmp_trans _ _ _ 16 0 h1 h2
    · rw [if_pos c] at h2
      rw [if_pos (by omega)]; omega
  · rw [if_pos a] at h1
    by_cases c : cmpF y.1 z.1 16 0 = 0
    · have e := cmp_eq_l x.1 16 0 (show cmpF z.1 y.1 16 0 = 0 by rw [cmp_neg, c]; rfl)
      have e2 := cmp_neg y.1 x.1 16 0
      have e3 := cmp_neg z.1 x.1 16 0
      have e4 : cmpF x.1 z.1 16 0 = cmpF x.1 y.1 16 0 := by rw [e3, e, e2]
      rw [if_pos (by omega)]; omega
    · rw [if_pos c] at h2
      have h3 := cmp_trans _ _ _ 16 0 h1 h2
      by_cases d : cmpF x.1 z.1 16 0 = 0
      · exfalso
        have e := cmp_eq_l y.1 16 0 d
        have e2 := cmp_neg y.1 z.1 16 0
        omega
      · rw [if_pos d]; exact h3
theorem cd_zero {x y : Pr} (h1 : cdP x y ≤ 0) (h2 : cdP y x ≤ 0) : (∀ j, j < 16 → x.1 j = y.1 j) ∧ ∀ j, j < 16 → x.2 j = y.2 j := by
  rw [cd_neg] at h2
  have h : cdP x y = 0 := by omega
  unfold cdP cdF at h
  by_cases a : cmpF x.1 y.1 16 0 = 0
  · rw [if_neg (by omega)] at h
    exact ⟨fun j hj => (cmpF_zero _ _ _ _).1 a j (Nat.zero_le _) (by omega), fun j hj => (cmpF_zero _ _ _ _).1 h j (Nat.zero_le _) (by omega)⟩
  · rw [if_pos a] at h; exact absurd h a

section
variable {N : Nat} {b w b' w' : Nat → Nat}
def candP (N : Nat) (b w : Nat → Nat) (x : Nat) : Pr := (candB N b w x, candW N b w x)
theorem cd_same (x : Pr) : cdP x x = 0 := by
  have := cd_neg x x
  omega

theorem can_least (N : Nat) (b w : Nat → Nat) : ∀ k, (∃ x, x ≤ k ∧ canF N b w k = candP N b w x) ∧ ∀ x, x ≤ k → cdP (canF N b w k) (candP N b w x) ≤ 0
  | 0 => ⟨⟨0, Nat.le_refl _, rfl⟩, fun x hx => by
    have : x = 0 := by omega
    subst this
    exact Int.le_of_eq (cd_same _)⟩
  | k + 1 => by
    obtain ⟨⟨x0, hx0, e0⟩, h0⟩ := can_least N b w k
    by_cases c : cdP (candP N b w (k + 1)) (canF N b w k) < 0
    · have e : canF N b w (k + 1) = candP N b w (k + 1) := by
        show (if cdP (candP N b w (k + 1)) (canF N b w k) < 0 then candP N b w (k + 1) else canF N b w k) = _
        rw [if_pos c]
      rw [e]
      refine ⟨⟨k + 1, Nat.le_refl _, rfl⟩, fun x hx => ?_⟩
      by_cases hk : x = k + 1
      · subst hk; exact Int.le_of_eq (cd_same _)
      · exact cd_trans (Int.le_of_lt c) (h0 x (by omega))
    · have e : canF N b w (k + 1) = canF N b w k := by
        show (if cdP (candP N b w (k + 1)) (canF N b w k) < 0 then candP N b w (k + 1) else canF N b w k) = _
        rw [if_neg c]
      rw [e]
      refine ⟨⟨x0, by omega, e0⟩, fun x hx => ?_⟩
      by_cases hk : x = k + 1
      · subst hk
        have := cd_neg (candP N b w (k + 1)) (canF N b w k)
        omega
      · exact h0 x (by omega)

/-- Isomorphic dessins have the same candidates. -/
theorem cand_iso (hD : Des N b w) (hD' : Des N b' w') {f : Nat → Nat} (hp : Perm N f) (he : Eqv N b w b' w' f) {x : Nat} (hx : x < N) : candP N b' w' (f x) = candP N b w x := by
  have hN := hD.le
  have hfx := hp.lt x hx
  have hn := name_perm hD hx
  have hm := name_perm hD' hfx
  have hG := bfs_map hN hN hD.pb.lt hD.pw.lt hD'.pb.lt hD'.pw.lt hp.inj hp.lt he hx
  obtain ⟨a1, a2, a3, a4, a5⟩ := bfs_all hD hx
  have hnm : ∀ i, i < N → nameF b' w' (f x) (f i) = nameF b w x i := fun i hi => by
    have g1 := name_get hD hx hi
    have g2 : (bfsF b' w' (f x)).getD (nameF b w x i) 0 = f i := by rw [hG, getD_map (by omega), g1.2]
    have g3 := name_at hD' hfx g1.1
    rwa [g2] at g3
  have key : ∀ (v v' : Nat → Nat), (∀ i, i < N → v i < N) → (∀ i, i < N → f (v i) = v' (f i)) → renTo (nameF b' w' (f x)) v' N = renTo (nameF b w x) v N := by
    intro v v' hv h
    funext j
    by_cases hj : j < N
    · have g1 := name_at hD hx hj
      have g0 : (bfsF b w x).getD j 0 < N := a2 _ (getD_mem (by omega))
      have g2 := renTo_at hn v N (Nat.le_refl _) _ g0
      have g3 := renTo_at hm v' N (Nat.le_refl _) _ (hp.lt _ g0)
      rw [hnm _ g0, g1, ← h _ g0, hnm _ (hv _ g0)] at g3
      rw [g1] at g2
      rw [g3, g2]
    · rw [renTo_out hm.lt N (Nat.le_refl _) j (by omega), renTo_out hn.lt N (Nat.le_refl _) j (by omega)]
  unfold candP candB candW
  rw [key b b' hD.pb.lt fun i hi => (he i hi).1, key w w' hD.pw.lt fun i hi => (he i hi).2]

theorem eq16_lt {f g : Nat → Nat} : ∀ n i, (∀ j, j < n → f (i + j) = g (i + j)) → eq16 f g i n = true
  | 0, _, _ => rfl
  | n + 1, i, h => by
    have h0 := h 0 (by omega)
    rw [Nat.add_zero] at h0
    simp only [eq16, h0, decide_true, Bool.true_and]
    exact eq16_lt n (i + 1) fun j hj => by
      have := h (j + 1) (by omega)
      rwa [show i + (j + 1) = i + 1 + j by omega] at this

theorem can_iff (hD : Des N b w) (hD' : Des N b' w') : eqDs N (canF N b w (N - 1)).1 (canF N b w (N - 1)).2 N (canF N b' w' (N - 1)).1 (canF N b' w' (N - 1)).2 = decide (0 < (isoL N b w b' w' N).length) := by
  have hN := hD.le
  have hpos := hD.pos
  obtain ⟨⟨x, hx, ex⟩, hmin⟩ := can_least N b w (N - 1)
  obtain ⟨⟨y, hy, ey⟩, hmin'⟩ := can_least N b' w' (N - 1)
  rw [Bool.eq_iff_iff, decide_eq_true_eq]
  constructor
  · intro h
    have hxN : x < N := by omega
    have hyN : y < N := by omega
    rw [ex, ey] at h
    unfold eqDs at h
    simp only [Bool.and_eq_true] at h
    obtain ⟨_, e1, e2, _⟩ := h
    have hn0 := name_perm hD hxN
    have hm := name_perm hD' hyN
    obtain ⟨a1, a2, a3, a4, a5⟩ := bfs_all hD hxN
    obtain ⟨c1, c2, c3, c4, c5⟩ := bfs_all hD' hyN
    have key : ∀ (v v' : Nat → Nat), (∀ i, i < N → v i < N) → (∀ i, i < N → v' i < N) → eq16 (renTo (nameF b w x) v N) (renTo (nameF b' w' y) v' N) 0 16 = true → ∀ i, i < N → (bfsF b' w' y).getD (nameF b w x (v i)) 0 = v' ((bfsF b' w' y).getD (nameF b w x i) 0) := by
      intro v v' hv hv' he i hi
      have g1 := name_get hD hxN hi
      have g2 : (bfsF b' w' y).getD (nameF b w x i) 0 < N := c2 _ (getD_mem (by omega))
      have g3 := name_at hD' hyN g1.1
      have g4 := eq16_get he (nameF b w x i) (by omega)
      rw [Nat.zero_add, renTo_at hn0 v N (Nat.le_refl _) i hi] at g4
      have g5 := renTo_at hm v' N (Nat.le_refl _) _ g2
      rw [g3, ← g4] at g5
      rw [g5]
      exact (name_get hD' hyN (hv' _ g2)).2
    have heqv : Eqv N b w b' w' fun i => (bfsF b' w' y).getD (nameF b w x i) 0 := fun i hi => ⟨key b b' hD.pb.lt hD'.pb.lt e1 i hi, key w w' hD.pw.lt hD'.pw.lt e2 i hi⟩
    have h0N : (bfsF b' w' y).getD (nameF b w x 0) 0 < N := c2 _ (getD_mem (by have := (name_get hD hxN hpos).1; omega))
    have hB := iso_true hD hD' h0N (f := fun i => (bfsF b' w' y).getD (nameF b w x i) 0) rfl heqv
    rw [isoL_count]
    exact List.length_pos_of_mem (List.mem_filter.2 ⟨List.mem_range.2 h0N, hB⟩)
  · intro h
    obtain ⟨z, hz, hB, _⟩ := isoL_get hD hD' h
    obtain ⟨p1, p2, p3, p4⟩ := iso_of hD hD' hz hB
    have h1 : cdP (canF N b w (N - 1)) (canF N b' w' (N - 1)) ≤ 0 := by
      obtain ⟨u, hu, eu⟩ := perm_surj hN p1 (show y < N by omega)
      rw [ey, ← eu, cand_iso hD hD' p1 p3 hu]
      exact hmin u (by omega)
    have h2 : cdP (canF N b' w' (N - 1)) (canF N b w (N - 1)) ≤ 0 := by
      rw [ex, ← cand_iso hD hD' p1 p3 (show x < N by omega)]
      exact hmin' _ (by have := p1.lt x (by omega); omega)
    obtain ⟨g1, g2⟩ := cd_zero h1 h2
    unfold eqDs
    rw [eq16_lt 16 0 fun j hj => by rw [Nat.zero_add]; exact g1 j hj, eq16_lt 16 0 fun j hj => by rw [Nat.zero_add]; exact g2 j hj]
    simp
end

end Go.Proofs.Ytakapfgjdhliaaa
