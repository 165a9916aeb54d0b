import Derived.Test.YtakapfgjdhliaaaL10
/- Parity: a permutation's numbers less its cycles. -/
namespace Go.Proofs.Ytakapfgjdhliaaa
open Go.RowKit DM
set_option linter.unusedVariables false
set_option linter.unusedSimpArgs false

/-- n taken out of its cycle. -/
def rmF (n : Nat) (p : Nat → Nat) (x : Nat) : Nat := if p x = n then p n else p x
/-- The numbers less the cycles. -/
def sgF : Nat → (Nat → Nat) → Nat
  | 0, _ => 0
  | n + 1, p => sgF n (rmF n p) + if p n = n then 0 else 1
/-- Two numbers exchanged. -/
def trF (a b x : Nat) : Nat := if x = a then b else if x = b then a else x

theorem sg_congr : ∀ n {p q : Nat → Nat}, (∀ x, x < n → p x = q x) → sgF n p = sgF n q
  | 0, _, _, _ => rfl
  | n + 1, p, q, h => by
    have hn := h n (Nat.lt_succ_self _)
    simp only [sgF, hn]
    rw [sg_congr n (p := rmF n p) (q := rmF n q) fun x hx => by unfold rmF; rw [h x (by omega), hn]]

theorem rm_perm {n : Nat} {p : Nat → Nat} (hp : Perm (n + 1) p) : Perm n (rmF n p) := by
  refine ⟨fun i hi => ?_, fun i j hi hj e => ?_⟩
  · have h1 := hp.lt i (by omega)
    have h2 := hp.lt n (by omega)
    have h3 : p i ≠ p n := fun e => by have := hp.inj i n (by omega) (by omega) e; omega
    unfold rmF; split <;> omega
  · have h1 : p i ≠ p n := fun e => by have := hp.inj i n (by omega) (by omega) e; omega
    have h2 : p j ≠ p n := fun e => by have := hp.inj j n (by omega) (by omega) e; omega
    unfold rmF at e
    refine hp.inj i j (by omega) (by omega) ?_
    split at e <;> split at e <;> omega

theorem tr_a (a b : Nat) : trF a b a = b := by unfold trF; rw [if_pos rfl]
theorem tr_b (a b : Nat) : trF a b b = a := by
  unfold trF
  by_cases h : b = a
  · rw [if_pos h, h]
  · rw [if_neg h, if_pos rfl]
theorem tr_o {a b x : Nat} (h1 : x ≠ a) (h2 : x ≠ b) : trF a b x = x := by unfold trF; rw [if_neg h1, if_neg h2]

theorem tr_comm {a b : Nat} (h : a ≠ b) (x : Nat) : trF a b x = trF b a x := by
  unfold trF
  by_cases h1 : x = a <;> by_cases h2 : x = b <;> simp [h1, h2] <;> omega

theorem tr_perm {n a b : Nat} (ha : a < n) (hb : b < n) {p : Nat → Nat} (hp : Perm n p) : Perm n (fun x => trF a b (p x)) := by
  refine ⟨fun i hi => ?_, fun i j hi hj e => ?_⟩
  · have := hp.lt i hi
    show trF a b (p i) < n
    unfold trF; split
    · exact hb
    · split <;> omega
  · refine hp.inj i j hi hj ?_
    have e : trF a b (p i) = trF a b (p j) := e
    unfold trF at e
    split at e <;> split at e <;> (try split at e) <;> (try split at e) <;> omega

theorem sg_tr : ∀ (n : Nat) (p : Nat → Nat) (a b : Nat), Perm n p → a < n → b < n → a ≠ b → (sgF n (fun x => trF a b (p x)) + sgF n p) % 2 = 1
  | 0, _, _, _, _, h, _, _ => absurd h (Nat.not_lt_zero _)
  | n + 1, p, a, b, hp, ha, hb, hab => by
    have hr := rm_perm hp
    have hnx : ∀ x, x < n → p x ≠ p n := fun x hx e => by have := hp.inj x n (by omega) (by omega) e; omega
    have hlt : ∀ x, x < n + 1 → p x < n + 1 := hp.lt
    have hpn := hlt n (by omega)
    have main : ∀ a, a < n → (sgF (n + 1) (fun x => trF a n (p x)) + sgF (n + 1) p) % 2 = 1 := by
      intro a ha
      show (sgF n (rmF n fun x => trF a n (p x)) + (if trF a n (p n) = n then 0 else 1) + (sgF n (rmF n p) + if p n = n then 0 else 1)) % 2 = 1
      by_cases c1 : p n = n
      · have hc : sgF n (rmF n fun x => trF a n (p x)) = sgF n (rmF n p) := sg_congr n fun x hx => by
          have h1 := hnx x hx
          have h2 := hlt x (by omega)
          show (if trF a n (p x) = n then trF a n (p n) else trF a n (p x)) = if p x = n then p n else p x
          by_cases e : p x = a
          · rw [e, tr_a, if_pos rfl, c1, tr_b, if_neg (by omega)]
          · rw [tr_o e (by omega), if_neg (by omega), if_neg (by omega)]
        rw [hc, c1, tr_b, if_neg (show a ≠ n by omega), if_pos rfl]
        omega
      · by_cases c2 : p n = a
        · have hc : sgF n (rmF n fun x => trF a n (p x)) = sgF n (rmF n p) := sg_congr n fun x hx => by
            have h1 := hnx x hx
            have h2 := hlt x (by omega)
            show (if trF a n (p x) = n then trF a n (p n) else trF a n (p x)) = if p x = n then p n else p x
            by_cases e : p x = n
            · rw [e, tr_b, if_neg (by omega), if_pos rfl, c2]
            · rw [tr_o (by omega) e, if_neg e, if_neg e]
          rw [hc, c2, tr_a, if_pos rfl, if_neg (show a ≠ n by omega)]
          omega
        · have ih := sg_tr n (rmF n p) a (p n) hr ha (by omega) (fun e => c2 e.symm)
          have hc : sgF n (rmF n fun x => trF a n (p x)) = sgF n (fun x => trF a (p n) (rmF n p x)) := sg_congr n fun x hx => by
            have h1 := hnx x hx
            have h2 := hlt x (by omega)
            show (if trF a n (p x) = n then trF a n (p n) else trF a n (p x)) = trF a (p n) (if p x = n then p n else p x)
            by_cases e : p x = n
            · rw [e, tr_b, if_neg (show a ≠ n by omega), if_pos rfl, tr_b]
            · by_cases e2 : p x = a
              · rw [e2, tr_a, if_pos rfl, if_neg (show a ≠ n by omega), tr_a, tr_o c2 c1]
              · rw [tr_o e2 e, if_neg e, if_neg e, tr_o e2 h1]
          rw [hc, tr_o c2 c1, if_neg c1]
          omega
    by_cases hbn : b = n
    · subst hbn; exact main a (by omega)
    · by_cases han : a = n
      · subst han
        rw [sg_congr (a + 1) (q := fun x => trF b a (p x)) fun x _ => tr_comm hab _]
        exact main b (by omega)
      · have ih := sg_tr n (rmF n p) a b hr (by omega) (by omega) hab
        have hc : sgF n (rmF n fun x => trF a b (p x)) = sgF n (fun x => trF a b (rmF n p x)) := sg_congr n fun x hx => by
          have h2 := hlt x (by omega)
          show (if trF a b (p x) = n then trF a b (p n) else trF a b (p x)) = trF a b (if p x = n then p n else p x)
          by_cases e : p x = n
          · rw [e, tr_o (by omega) (by omega), if_pos rfl, if_pos rfl]
          · have : trF a b (p x) ≠ n := by
              unfold trF
              split
              · exact hbn
              · split
                · exact han
                · exact e
            rw [if_neg this, if_neg e]
        have hf : (trF a b (p n) = n) = (p n = n) := propext ⟨fun h => by
          unfold trF at h
          split at h
          · omega
          · split at h
            · omega
            · exact h, fun h => by unfold trF; rw [if_neg (by omega), if_neg (by omega)]; exact h⟩
        show (sgF n (rmF n fun x => trF a b (p x)) + (if trF a b (p n) = n then 0 else 1) + (sgF n (rmF n p) + if p n = n then 0 else 1)) % 2 = 1
        rw [hc]
        by_cases c : p n = n
        · rw [if_pos (hf ▸ c), if_pos c]; omega
        · rw [if_neg (fun h => c (hf ▸ h)), if_neg c]; omega

theorem rm_id (n : Nat) {p : Nat → Nat} (h : ∀ x, x < n + 1 → p x = x) : ∀ x, x < n → rmF n p x = x := fun x hx => by
  unfold rmF; rw [h x (by omega), if_neg (by omega)]
theorem sg_id : ∀ n {p : Nat → Nat}, (∀ x, x < n → p x = x) → sgF n p = 0
  | 0, _, _ => rfl
  | n + 1, p, h => by
    simp only [sgF]
    rw [sg_id n (rm_id n h), if_pos (h n (Nat.lt_succ_self _))]

theorem perm_comp {n : Nat} {p q : Nat → Nat} (hp : Perm n p) (hq : Perm n q) : Perm n (fun x => p (q x)) :=
  ⟨fun i hi => hp.lt _ (hq.lt i hi), fun i j hi hj e => hq.inj i j hi hj (hp.inj _ _ (hq.lt i hi) (hq.lt j hj) e)⟩

/-- Parities are added. -/
theorem sg_mul {n : Nat} {q : Nat → Nat} (hq : Perm n q) : ∀ (m : Nat), m ≤ n → ∀ p : Nat → Nat, Perm n p → (∀ x, m ≤ x → x < n → p x = x) → (sgF n (fun x => p (q x)) + sgF n p + sgF n q) % 2 = 0
  | 0, _, p, hp, h => by
    rw [sg_id n (p := p) fun x hx => h x (Nat.zero_le _) hx, sg_congr n (p := fun x => p (q x)) (q := q) fun x hx => h _ (Nat.zero_le _) (hq.lt x hx)]
    omega
  | m + 1, hm, p, hp, h => by
    by_cases e : p m = m
    · refine sg_mul hq m (by omega) p hp fun x h1 h2 => ?_
      by_cases ex : x = m
      · subst ex; exact e
      · exact h x (by omega) h2
    · have hpm := hp.lt m (by omega)
      have hlt : p m < m := by
        refine Classical.byContradiction fun hn => ?_
        have h1 := h (p m) (by omega) hpm
        have := hp.inj _ _ hpm (by omega) h1
        omega
      have hp' := tr_perm (a := p m) (b := m) hpm (by omega) hp
      have ih : (sgF n (fun x => trF (p m) m (p (q x))) + sgF n (fun x => trF (p m) m (p x)) + sgF n q) % 2 = 0 := sg_mul hq m (by omega) (fun x => trF (p m) m (p x)) hp' fun x h1 h2 => by
        by_cases ex : x = m
        · subst ex; show trF (p x) x (p x) = x; unfold trF; rw [if_pos rfl]
        · have hx := h x (by omega) h2
          show trF (p m) m (p x) = x
          unfold trF
          rw [hx, if_neg (by omega), if_neg ex]
      have t1 := sg_tr n p (p m) m hp hpm (by omega) (by omega)
      have t2 : (sgF n (fun x => trF (p m) m (p (q x))) + sgF n (fun x => p (q x))) % 2 = 1 := sg_tr n (fun x => p (q x)) (p m) m (perm_comp hp hq) hpm (by omega) (by omega)
      omega

/-- p, k times. -/
def itF (p : Nat → Nat) : Nat → Nat → Nat
  | 0, x => x
  | k + 1, x => p (itF p k x)
/-- The least of its cycle. -/
def Ldr (p : Nat → Nat) (x : Nat) : Prop := ∀ k, x ≤ itF p k x
noncomputable def ldF (p : Nat → Nat) : Nat → Nat
  | 0 => 0
  | n + 1 => ldF p n + (@ite Nat (Ldr p n) (Classical.propDecidable _) 1 0)

theorem it_lt {n : Nat} {p : Nat → Nat} (hp : ∀ i, i < n → p i < n) {x : Nat} (hx : x < n) : ∀ k, itF p k x < n
  | 0 => hx
  | k + 1 => hp _ (it_lt hp hx k)
theorem ldr_rm {n : Nat} {p : Nat → Nat} (hp : Perm (n + 1) p) {i : Nat} (hi : i < n) : Ldr p i ↔ Ldr (rmF n p) i := by
  have hr := rm_perm hp
  have hne : ∀ x, x < n → p x ≠ p n := fun x hx e => by have := hp.inj x n (by omega) (by omega) e; omega
  have A : ∀ k, ∃ k', itF (rmF n p) k i = itF p k' i := by
    intro k
    induction k with
    | zero => exact ⟨0, rfl⟩
    | succ k ih =>
      obtain ⟨k', e⟩ := ih
      by_cases c : p (itF (rmF n p) k i) = n
      · refine ⟨k' + 2, ?_⟩
        show rmF n p (itF (rmF n p) k i) = p (p (itF p k' i))
        rw [← e]
        generalize itF (rmF n p) k i = z at *
        unfold rmF; rw [if_pos c, c]
      · refine ⟨k' + 1, ?_⟩
        show rmF n p (itF (rmF n p) k i) = p (itF p k' i)
        rw [← e]
        generalize itF (rmF n p) k i = z at *
        unfold rmF; rw [if_neg c]
  have B : ∀ k, (∃ k', itF p k i = itF (rmF n p) k' i) ∨ (itF p k i = n ∧ ∃ k', p (itF (rmF n p) k' i) = n) := by
    intro k
    induction k with
    | zero => exact .inl ⟨0, rfl⟩
    | succ k ih =>
      rcases ih with ⟨k', e⟩ | ⟨e, k', e'⟩
      · by_cases c : p (itF p k i) = n
        · exact .inr ⟨c, k', by rw [← e]; exact c⟩
        · refine .inl ⟨k' + 1, ?_⟩
          show p (itF p k i) = rmF n p (itF (rmF n p) k' i)
          rw [← e]
          generalize itF p k i = z at *
          unfold rmF; rw [if_neg c]
      · refine .inl ⟨k' + 1, ?_⟩
        show p (itF p k i) = rmF n p (itF (rmF n p) k' i)
        rw [e]
        generalize itF (rmF n p) k' i = z at *
        unfold rmF; rw [if_pos e']
  constructor
  · intro h k
    obtain ⟨k', e⟩ := A k
    rw [e]; exact h k'
  · intro h k
    rcases B k with ⟨k', e⟩ | ⟨e, _⟩
    · rw [e]; exact h k'
    · rw [e]; omega

theorem ldr_top {n : Nat} {p : Nat → Nat} (hp : Perm (n + 1) p) : Ldr p n ↔ p n = n := by
  constructor
  · intro h
    have h1 := h 1
    have h2 := hp.lt n (by omega)
    have h3 : itF p 1 n = p n := rfl
    omega
  · intro h k
    have : itF p k n = n := by
      induction k with
      | zero => rfl
      | succ k ih => show p (itF p k n) = n; rw [ih, h]
    omega

theorem ld_congr {p q : Nat → Nat} : ∀ n, (∀ i, i < n → (Ldr p i ↔ Ldr q i)) → ldF p n = ldF q n
  | 0, _ => rfl
  | n + 1, h => by
    simp only [ldF]
    rw [ld_congr n fun i hi => h i (by omega), propext (h n (Nat.lt_succ_self _))]

theorem sg_ld : ∀ n {p : Nat → Nat}, Perm n p → sgF n p + ldF p n = n
  | 0, _, _ => rfl
  | n + 1, p, hp => by
    have ih := sg_ld n (rm_perm hp)
    rw [← ld_congr n fun i hi => ldr_rm hp hi] at ih
    simp only [sgF, ldF]
    by_cases c : p n = n
    · rw [if_pos c, if_pos ((ldr_top hp).2 c)]; omega
    · rw [if_neg c, if_neg fun h => c ((ldr_top hp).1 h)]; omega

theorem cyc_head {n : Nat} (hn : n ≤ 16) {p : Nat → Nat} (hp : Perm n p) {i : Nat} (hi : i < n) {M : Nat → Bool} (hm : M i = false) : (cyc p i [] M).1.getD 0 0 = i := by
  have h0 : WInv n p i M i [] M := ⟨fun x => by simp, fun x hx => by simp at hx, List.nodup_nil, fun t ht => by simp at ht, .inl ⟨rfl, rfl⟩, fun h => by simp at h, hi⟩
  have hpos := cyc_pos (p := p) (k := i) (by omega) hm
  obtain ⟨k, hw, hk⟩ := cyc_end hn hp.lt _ i [] M rfl h0
  exact hw.head (by omega)

theorem cyTo_heads {n : Nat} (hn : n ≤ 16) {p : Nat → Nat} (hp : Perm n p) : ∀ i, i ≤ n → ∀ j, j < (cyTo p i).1.length → ((cyTo p i).1.getD j []).getD 0 0 < i
  | 0, _, j, hj => by simp [cyTo] at hj
  | i + 1, hi, j, hj => by
    cases hm : (cyTo p i).2 i
    · rw [cyTo_new hm] at hj ⊢
      simp only [List.length_append, List.length_singleton] at hj ⊢
      by_cases e : j < (cyTo p i).1.length
      · rw [getD_snoc_lt _ _ _ e]
        have := cyTo_heads hn hp i (by omega) j e
        omega
      · have e : j = (cyTo p i).1.length := by omega
        subst e
        rw [getD_snoc, cyc_head hn hp (by omega) hm]
        omega
    · rw [cyTo_old hm] at hj ⊢
      have := cyTo_heads hn hp i (by omega) j hj
      omega

theorem met_ldr {n : Nat} (hn : n ≤ 16) {p : Nat → Nat} (hp : Perm n p) {i : Nat} (hi : i < n) : (cyTo p i).2 i = false ↔ Ldr p i := by
  have h := cyTo_inv hn hp i (by omega)
  have hh := cyTo_heads hn hp i (by omega)
  generalize (cyTo p i).1 = L at *
  generalize (cyTo p i).2 = M at *
  constructor
  · intro hm k
    refine Classical.byContradiction fun hlt => ?_
    have hy : M (itF p k i) = true := h.all _ (by omega)
    obtain ⟨j, hj, hx⟩ := (h.met _).1 hy
    have back : ∀ k, itF p k i ∈ L.getD j [] → i ∈ L.getD j [] := by
      intro k
      induction k with
      | zero => exact fun h => h
      | succ k ih =>
        intro hk
        obtain ⟨y, hy, e⟩ := h.bwd j _ hk
        have := hp.inj y (itF p k i) (h.lt j y hy) (it_lt hp.lt hi k) e
        exact ih (this ▸ hy)
    rw [(h.met i).2 ⟨j, hj, back k hx⟩] at hm
    cases hm
  · intro hl
    cases hm : M i with
    | false => rfl
    | true =>
      exfalso
      obtain ⟨j, hj, hx⟩ := (h.met i).1 hm
      have hpos := h.pos j hj
      have hd := h.nodup j
      have hfirst := hh j hj
      obtain ⟨t, ht, e⟩ := mem_getD hx
      -- the list is walked to its end, and then comes its beginning
      have walk : ∀ s, t + s < (L.getD j []).length → itF p s i = (L.getD j []).getD (t + s) 0 := by
        intro s
        induction s with
        | zero => intro _; exact e.symm
        | succ s ih =>
          intro hs
          show p (itF p s i) = _
          rw [ih (by omega), ← h.chain j (t + s) hs]; rfl
      obtain ⟨y, hy, ey⟩ := h.bwd j _ (getD_mem hpos)
      obtain ⟨s, hs, rfl⟩ := mem_getD hy
      have hlast : s + 1 = (L.getD j []).length := by
        refine Classical.byContradiction fun hne => ?_
        have h1 := h.chain j s (by omega)
        rw [ey] at h1
        have := nodup_getD hd (by omega) hpos h1
        omega
      have h2 := walk (s - t) (by omega)
      rw [show t + (s - t) = s by omega] at h2
      have h3 := hl (s - t + 1)
      have h4 : itF p (s - t + 1) i = (L.getD j []).getD 0 0 := by show p (itF p (s - t) i) = _; rw [h2, ey]
      omega

theorem cyc_count {n : Nat} (hn : n ≤ 16) {p : Nat → Nat} (hp : Perm n p) : ∀ i, i ≤ n → (cyTo p i).1.length = ldF p i
  | 0, _ => rfl
  | i + 1, hi => by
    have ih := cyc_count hn hp i (by omega)
    have hm := met_ldr hn hp (show i < n by omega)
    simp only [ldF]
    cases c : (cyTo p i).2 i
    · rw [cyTo_new c, if_pos (hm.1 c)]
      simp only [List.length_append, List.length_singleton, ih]
    · rw [cyTo_old c, if_neg fun h => by rw [hm.2 h] at c; cases c]
      exact ih

end Go.Proofs.Ytakapfgjdhliaaa
