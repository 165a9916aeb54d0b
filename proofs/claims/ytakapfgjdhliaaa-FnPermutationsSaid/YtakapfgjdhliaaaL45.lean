import Derived.Test.YtakapfgjdhliaaaL12
import Derived.Test.YtakapfgjdhliaaaL18
import Derived.Test.YtakapfgjdhliaaaL6
/- Cycles: numbers come back from them, their lengths add up, those of the permutation that leads back are as long. -/
namespace Go.Proofs.Ytakapfgjdhliaaa
open Go.RowKit DM
set_option linter.unusedVariables false

/-- Lists that part the numbers below n into the cycles of p. -/
abbrev Cyc (n : Nat) (p : Nat → Nat) (L : List (List Nat)) (M : Nat → Bool) : Prop := OInv n p n L M

theorem cyc_of {n : Nat} (hn : n ≤ 16) {p : Nat → Nat} (hp : Perm n p) : Cyc n p (cycs p n) (cyTo p n).2 := cyTo_inv hn hp n (Nat.le_refl _)

theorem nodup_subl : ∀ {l k : List Nat}, l.Nodup → (∀ x ∈ l, x ∈ k) → l.length ≤ k.length
  | [], k, _, _ => Nat.zero_le _
  | a :: l, k, h, hs => by
    have ha := hs a (List.mem_cons_self ..)
    have h1 := nodup_subl (l := l) (k := k.erase a) (List.nodup_cons.1 h).2 fun x hx => by
      have hne : x ≠ a := fun e => by subst e; exact (List.nodup_cons.1 h).1 hx
      exact (List.mem_erase_of_ne hne).2 (hs x (List.mem_cons_of_mem _ hx))
    rw [List.length_erase_of_mem ha] at h1
    have : 0 < k.length := List.length_pos_iff.2 fun e => by subst e; cases ha
    simp only [List.length_cons]; omega

section
variable {n : Nat} {p : Nat → Nat} {L : List (List Nat)} {M : Nat → Bool}

/-- A cycle ends where it began. -/
theorem OInv.close (hp : Perm n p) (h : Cyc n p L M) {j : Nat} (hj : j < L.length) : p ((L.getD j []).getD ((L.getD j []).length - 1) 0) = (L.getD j []).getD 0 0 := by
  have hpos := h.pos j hj
  have hl := getD_mem (l := L.getD j []) (t := (L.getD j []).length - 1) (by omega)
  obtain ⟨s, hs, e⟩ := mem_getD (h.fwd j _ hl)
  rcases s with _ | s
  · exact e.symm
  · exfalso
    have h1 := h.chain j s hs
    rw [e] at h1
    have h2 := hp.inj _ _ (h.lt j _ hl) (h.lt j _ (getD_mem (by omega))) h1
    have := nodup_getD (h.nodup j) (by omega) (by omega) h2
    omega
theorem OInv.next (hp : Perm n p) (h : Cyc n p L M) {j k : Nat} (hj : j < L.length) (hk : k < (L.getD j []).length) : (L.getD j []).getD ((k + 1) % (L.getD j []).length) 0 = p ((L.getD j []).getD k 0) := by
  by_cases e : k + 1 < (L.getD j []).length
  · rw [Nat.mod_eq_of_lt e]; exact h.chain j k e
  · have e2 : k + 1 = (L.getD j []).length := by omega
    rw [e2, Nat.mod_self, show k = (L.getD j []).length - 1 by omega]
    exact (h.close hp hj).symm

/-- What has been noted. -/
def Noted (n : Nat) (p : Nat → Nat) (s : (Nat → Nat) × (Nat → Bool)) : Prop := ∀ v, s.1 v = if s.2 v = true then p v else fillF (fun i => i) n v

theorem Noted.step {s : (Nat → Nat) × (Nat → Bool)} (h : Noted n p s) {x : Nat} : Noted n p (stB (x : Int) ((p x : Nat) : Int) s) := by
  intro v
  have hv := h v
  unfold stB
  simp only [Int.toNat_natCast]
  by_cases e : v = x
  · subst e; simp only [up_same, if_true]
  · simp only [up_ne _ _ e]; exact hv

theorem inB_cyc (hp : Perm n p) (h : Cyc n p L M) {j : Nat} (hj : j < L.length) {g : Nat → Nat → Int} (hg : ∀ j t, g j t = (((L.getD j []).getD t 0 : Nat) : Int)) :
    ∀ (m k : Nat) (s : (Nat → Nat) × (Nat → Bool)), m + k = (L.getD j []).length → Noted n p s → (∀ v, s.2 v = true ↔ (∃ i, i < j ∧ v ∈ L.getD i []) ∨ v ∈ (L.getD j []).take k) →
    ∃ s', inB n (g j) (L.getD j []).length m k s = some s' ∧ Noted n p s' ∧ ∀ v, s'.2 v = true ↔ (∃ i, i < j + 1 ∧ v ∈ L.getD i [])
  | 0, k, s, hm, hN, hs => ⟨s, rfl, hN, fun v => by
      rw [hs v, List.take_of_length_le (by omega)]
      constructor
      · rintro (⟨i, h1, h2⟩ | h1)
        · exact ⟨i, by omega, h2⟩
        · exact ⟨j, by omega, h1⟩
      · rintro ⟨i, h1, h2⟩
        by_cases e : i < j
        · exact .inl ⟨i, e, h2⟩
        · exact .inr (by rw [show j = i by omega]; exact h2)⟩
  | m + 1, k, s, hm, hN, hs => by
    have hk : k < (L.getD j []).length := by omega
    have hx := getD_mem hk
    have hxn := h.lt j _ hx
    have hpn := h.lt j _ (h.fwd j _ hx)
    have hmet : s.2 ((L.getD j []).getD k 0) = false := by
      cases e : s.2 ((L.getD j []).getD k 0)
      · rfl
      · exfalso
        rcases (hs _).1 e with ⟨i, h1, h2⟩ | h1
        · have := h.uniq i j _ h2 hx; omega
        · obtain ⟨t, ht, e2⟩ := mem_getD h1
          rw [List.length_take] at ht
          have e3 : ((L.getD j []).take k).getD t 0 = (L.getD j []).getD t 0 := by
            simp only [List.getD_eq_getElem?_getD]; rw [List.getElem?_take_of_lt (by omega)]
          rw [e3] at e2
          have := nodup_getD (h.nodup j) (by omega) hk e2
          omega
    have e0 : inB n (g j) (L.getD j []).length (m + 1) k s = bif okB n (g j k) (g j ((k + 1) % (L.getD j []).length)) s.2 then inB n (g j) (L.getD j []).length m (k + 1) (stB (g j k) (g j ((k + 1) % (L.getD j []).length)) s) else none := rfl
    rw [e0, hg, hg, h.next hp hj hk, okB_yes hxn hpn hmet]
    refine inB_cyc hp h hj hg m (k + 1) _ (by omega) hN.step fun v => ?_
    unfold stB
    simp only [Int.toNat_natCast]
    rw [mem_take_succ hk]
    by_cases e : v = (L.getD j []).getD k 0
    · subst e
      rw [up_same]
      exact ⟨fun _ => .inr (.inr rfl), fun _ => rfl⟩
    · rw [up_ne _ _ e, hs v]
      constructor
      · rintro (h1 | h1)
        · exact .inl h1
        · exact .inr (.inl h1)
      · rintro (h1 | h1 | h1)
        · exact .inl h1
        · exact .inr h1
        · exact absurd h1 e

theorem outB_cyc (hp : Perm n p) (h : Cyc n p L M) {ln : Nat → Nat} {g : Nat → Nat → Int} (hl : ∀ j, ln j = (L.getD j []).length) (hg : ∀ j t, g j t = (((L.getD j []).getD t 0 : Nat) : Int)) :
    ∀ (m i : Nat) (s : (Nat → Nat) × (Nat → Bool)), m + i = L.length → Noted n p s → (∀ v, s.2 v = true ↔ ∃ j, j < i ∧ v ∈ L.getD j []) →
    ∃ s', outB n ln g m i s = some s' ∧ Noted n p s' ∧ ∀ v, s'.2 v = true ↔ (∃ j, j < L.length ∧ v ∈ L.getD j [])
  | 0, i, s, hm, hN, hs => ⟨s, rfl, hN, fun v => by rw [hs v, show i = L.length by omega]⟩
  | m + 1, i, s, hm, hN, hs => by
    have hi : i < L.length := by omega
    have hpos := h.pos i hi
    obtain ⟨s1, h1, h2, h3⟩ := inB_cyc hp h hi hg (L.getD i []).length 0 s (by omega) hN fun v => by rw [hs v]; simp
    obtain ⟨s2, g1, g2, g3⟩ := outB_cyc hp h hl hg m (i + 1) s1 (by omega) h2 h3
    refine ⟨s2, ?_, g2, g3⟩
    have e0 : outB n ln g (m + 1) i s = bif Nat.beq (ln i) 0 then none else (inB n (g i) (ln i) (ln i) 0 s).bind (outB n ln g m (i + 1)) := rfl
    rw [e0, hl i, show Nat.beq (L.getD i []).length 0 = false from by
      cases e : Nat.beq (L.getD i []).length 0 with
      | false => rfl
      | true => (have := Nat.eq_of_beq_eq_true e; omega), h1]
    exact g1

/-- A permutation comes back from its cycles. -/
theorem made_cyc (h1 : 1 ≤ n) (hn : n ≤ 16) (hp : Perm n p) (hz : ∀ i, n ≤ i → p i = 0) {ln : Nat → Nat} {g : Nat → Nat → Int} (hl : ∀ j, ln j = ((cycs p n).getD j []).length) (hg : ∀ j t, g j t = ((((cycs p n).getD j []).getD t 0 : Nat) : Int)) :
    ∃ met, pcV (n : Int) (cycs p n).length ln g = some (p, met) := by
  have h := cyc_of hn hp
  obtain ⟨⟨o, met⟩, g1, g2, g3⟩ := outB_cyc hp h hl hg (cycs p n).length 0 (fillF (fun i => i) n, fun _ => false) (by omega) (fun v => rfl) (fun v => by simp)
  have e : o = p := by
    funext v
    have g4 := g2 v
    dsimp only at g4
    by_cases hv : v < n
    · rw [if_pos ((g3 v).2 ((h.met v).1 (h.all v hv)))] at g4; exact g4
    · have : met v ≠ true := fun e => by
        obtain ⟨j, _, hx⟩ := (g3 v).1 e
        have := h.lt j v hx; omega
      rw [if_neg this] at g4
      rw [g4, hz v (by omega)]
      show (if v < n then v else 0) = 0
      rw [if_neg hv]
  subst e
  refine ⟨met, ?_⟩
  unfold pcV
  rw [show (decide (1 ≤ (n : Int)) && decide ((n : Int) ≤ 16)) = true from by simp; omega]
  exact g1

/-! ### Lengths -/
theorem mem_flat {x : Nat} : x ∈ L.flatten ↔ ∃ j, j < L.length ∧ x ∈ L.getD j [] := by
  rw [List.mem_flatten]
  constructor
  · rintro ⟨l, hl, hx⟩
    obtain ⟨j, hj, e⟩ := List.mem_iff_getElem.1 hl
    refine ⟨j, hj, ?_⟩
    rw [List.getD_eq_getElem?_getD, List.getElem?_eq_getElem hj]
    exact e ▸ hx
  · rintro ⟨j, hj, hx⟩
    rw [List.getD_eq_getElem?_getD, List.getElem?_eq_getElem hj] at hx
    exact ⟨_, List.getElem_mem hj, hx⟩
theorem flat_nodup (h : Cyc n p L M) : L.flatten.Nodup := by
  unfold List.Nodup
  rw [List.pairwise_flatten]
  refine ⟨fun l hl => ?_, ?_⟩
  · obtain ⟨j, hj, e⟩ := List.mem_iff_getElem.1 hl
    have := h.nodup j
    rw [List.getD_eq_getElem?_getD, List.getElem?_eq_getElem hj] at this
    exact e ▸ this
  · rw [List.pairwise_iff_getElem]
    intro i j hi hj hij x hx y hy e
    subst e
    have := h.uniq i j x (by rw [List.getD_eq_getElem?_getD, List.getElem?_eq_getElem hi]; exact hx) (by rw [List.getD_eq_getElem?_getD, List.getElem?_eq_getElem hj]; exact hy)
    omega
theorem flat_perm (h : Cyc n p L M) : L.flatten.Perm (List.range n) := by
  rw [List.perm_ext_iff_of_nodup (flat_nodup h) List.nodup_range]
  intro x
  rw [mem_flat, List.mem_range]
  constructor
  · rintro ⟨j, _, hx⟩; exact h.lt j x hx
  · intro hx; exact (h.met x).1 (h.all x hx)

/-- The cycles' lengths add up. -/
theorem cyc_sum (h : Cyc n p L M) : (L.map List.length).sum = n := by
  rw [← List.length_flatten, (flat_perm h).length_eq, List.length_range]

theorem cls_mem (h : Cyc n p L M) {x : Nat} (hx : x < n) : clsF L x < L.length ∧ x ∈ L.getD (clsF L x) [] := by
  obtain ⟨j, hj, hm⟩ := (h.met x).1 (h.all x hx)
  rw [cls_of h.uniq hm]
  exact ⟨hj, hm⟩

/-- How many numbers there are in x's cycle. -/
def lnF (L : List (List Nat)) (x : Nat) : Nat := (L.getD (clsF L x) []).length

theorem countP_flat (f : Nat → Bool) : ∀ L : List (List Nat), L.flatten.countP f = (L.map fun l => l.countP f).sum
  | [] => rfl
  | l :: L => by rw [List.flatten_cons, List.countP_append, countP_flat f L, List.map_cons, List.sum_cons]

theorem sum_count (k : Nat) : ∀ L : List Nat, (L.map fun l => if l = k then k else 0).sum = k * L.count k
  | [] => rfl
  | l :: L => by
    rw [List.map_cons, List.sum_cons, sum_count k L, List.count_cons]
    by_cases e : l = k
    · subst e; rw [if_pos rfl, if_pos (by simp), Nat.mul_add]; omega
    · rw [if_neg e, if_neg (by simpa using e), Nat.zero_add, Nat.add_zero]

theorem len_count (h : Cyc n p L M) (k : Nat) : k * (L.map List.length).count k = (List.range n).countP fun x => decide (lnF L x = k) := by
  rw [← (flat_perm h).countP_eq, countP_flat, ← sum_count, List.map_map]
  refine congrArg List.sum (List.map_congr_left fun l hl => ?_)
  obtain ⟨j, hj, e⟩ := List.mem_iff_getElem.1 hl
  have e2 : L.getD j [] = l := by rw [List.getD_eq_getElem?_getD, List.getElem?_eq_getElem hj]; exact e
  have hc : ∀ x ∈ l, lnF L x = l.length := fun x hx => by
    unfold lnF
    rw [cls_of h.uniq (j := j) (by rw [e2]; exact hx), e2]
  show (if l.length = k then k else 0) = l.countP fun x => decide (lnF L x = k)
  by_cases e3 : l.length = k
  · rw [if_pos e3, List.countP_eq_length.2 fun x hx => by rw [hc x hx]; exact decide_eq_true e3, e3]
  · rw [if_neg e3]
    refine (List.countP_eq_zero.2 fun x hx => ?_).symm
    rw [hc x hx]; simpa using e3

/-- Each number of a cycle is reached from each other one. -/
theorem OInv.reach (hp : Perm n p) (h : Cyc n p L M) {j : Nat} {S : Nat → Prop} (hS : ∀ x, S x → p x ∈ L.getD j [] → S (p x)) {x y : Nat} (hx : x ∈ L.getD j []) (hy : y ∈ L.getD j []) (h0 : S x) : S y := by
  have hj := getD_mem_lt hx
  obtain ⟨s, hs, rfl⟩ := mem_getD hx
  obtain ⟨t, ht, rfl⟩ := mem_getD hy
  have up1 : ∀ d s, s + d < (L.getD j []).length → S ((L.getD j []).getD s 0) → S ((L.getD j []).getD (s + d) 0) := by
    intro d
    induction d with
    | zero => intro s _ h1; exact h1
    | succ d ih =>
      intro s hs h1
      have h2 := ih s (by omega) h1
      have h3 := h.chain j (s + d) (by omega)
      rw [show s + (d + 1) = s + d + 1 by omega, h3]
      exact hS _ h2 (by rw [← h3]; exact getD_mem (by omega))
  have hlast := up1 ((L.getD j []).length - 1 - s) s (by omega) h0
  rw [show s + ((L.getD j []).length - 1 - s) = (L.getD j []).length - 1 by omega] at hlast
  have hhead : S ((L.getD j []).getD 0 0) := by
    have hc := h.close hp hj
    rw [← hc]
    exact hS _ hlast (by rw [hc]; exact getD_mem (by omega))
  have := up1 t 0 (by omega) hhead
  rwa [Nat.zero_add] at this

/-- Cycles of p and of the one that leads back are as long. -/
theorem ln_le (hp : Perm n p) (h : Cyc n p L M) {q : Nat → Nat} {L' : List (List Nat)} {M' : Nat → Bool} (h' : Cyc n q L' M') (hqp : ∀ x, x < n → p (q x) = x) (hq : Perm n q) {x : Nat} (hx : x < n) : lnF L x ≤ lnF L' x := by
  obtain ⟨h1, h2⟩ := cls_mem h hx
  obtain ⟨h3, h4⟩ := cls_mem h' hx
  unfold lnF
  refine nodup_subl (h.nodup _) fun y hy => ?_
  refine h.reach (S := fun y => y ∈ L'.getD (clsF L' x) []) hp (fun z hz _ => ?_) h2 hy h4
  obtain ⟨u, hu, e⟩ := h'.bwd _ z hz
  have hun := h'.lt _ u hu
  rw [← e, hqp u hun]
  exact hu

theorem back_ln (hn : n ≤ 16) (hp : Perm n p) (k : Nat) : ((cycs (backTo p n) n).map List.length).count k = ((cycs p n).map List.length).count k := by
  have hq := perm_back hn hp
  have h := cyc_of hn hp
  have h' := cyc_of hn hq
  have e1 : ∀ x, x < n → backTo p n (p x) = x := fun x hx => backTo_at hp n (Nat.le_refl _) x hx
  have e2 : ∀ x, x < n → p (backTo p n x) = x := fun x hx => by
    obtain ⟨y, hy, rfl⟩ := perm_surj hn hp hx
    rw [e1 y hy]
  have he : ∀ x, x < n → lnF (cycs (backTo p n) n) x = lnF (cycs p n) x := fun x hx => Nat.le_antisymm (ln_le hq h' h e1 hp hx) (ln_le hp h h' e2 hq hx)
  by_cases hk : k = 0
  · subst hk
    have z : ∀ {q : Nat → Nat}, Perm n q → ((cycs q n).map List.length).count 0 = 0 := fun hq => by
      rw [List.count_eq_zero]
      intro hm
      obtain ⟨l, hl, e⟩ := List.mem_map.1 hm
      have := cycs_lens hn hq l hl; omega
    rw [z hp, z hq]
  · have c1 := len_count h k
    have c2 := len_count h' k
    refine Nat.eq_of_mul_eq_mul_left (Nat.pos_of_ne_zero hk) ?_
    rw [c1, c2]
    refine List.countP_congr fun x hx => ?_
    rw [he x (List.mem_range.1 hx)]

theorem ty_congr {L L' : List (List Nat)} (h : ∀ k, (L.map List.length).count k = (L'.map List.length).count k) : tyN L n = tyN L' n := by
  unfold tyN
  have : cTo L L.length = cTo L' L'.length := by
    funext k
    rw [cTo_count L _ (Nat.le_refl _), cTo_count L' _ (Nat.le_refl _), List.take_length, List.take_length, h k]
  rw [this]
theorem back_ty (hn : n ≤ 16) (hp : Perm n p) : tyN (cycs (backTo p n) n) n = tyN (cycs p n) n := ty_congr (back_ln hn hp)

theorem ty_perm (hn : n ≤ 16) (hp : Perm n p) : (tyN (cycs p n) n).Perm ((cycs p n).map List.length) := by
  rw [← ty_eq (cycs_lens hn hp)]
  exact (List.reverse_perm _).trans (List.mergeSort_perm _ _)
/-- The type's numbers add up. -/
theorem ty_sum (hn : n ≤ 16) (hp : Perm n p) : (tyN (cycs p n) n).sum = n := by
  rw [(ty_perm hn hp).sum_nat, cyc_sum (cyc_of hn hp)]
theorem ty_mem (hn : n ≤ 16) (hp : Perm n p) {x : Nat} (hx : x ∈ tyN (cycs p n) n) : 1 ≤ x ∧ x ≤ n := by
  obtain ⟨l, hl, rfl⟩ := List.mem_map.1 ((ty_perm hn hp).mem_iff.1 hx)
  exact cycs_lens hn hp l hl
end

/-- Least common multiples are multiples. -/
theorem dvd_lcmTo {l : List Nat} (h : ∀ x ∈ l, 1 ≤ x ∧ x ≤ 16) : ∀ i, i ≤ l.length → ∀ j, j < i → l.getD j 0 ∣ lcmTo l i
  | 0, _, j, hj => absurd hj (Nat.not_lt_zero _)
  | i + 1, hi, j, hj => by
    have e : lcmTo l (i + 1) = Nat.lcm (lcmTo l i) (l.getD i 0) := by
      simp only [lcmTo]
      have hg := Nat.gcd_dvd_left (lcmTo l i) (l.getD i 0)
      unfold Nat.lcm
      rw [Nat.mul_comm, ← Nat.mul_div_assoc _ hg, Nat.mul_comm]
    rw [e]
    by_cases c : j < i
    · exact Nat.dvd_trans (dvd_lcmTo h i (by omega) j c) (Nat.dvd_lcm_left _ _)
    · rw [show j = i by omega]; exact Nat.dvd_lcm_right _ _

end Go.Proofs.Ytakapfgjdhliaaa
