/- Live slots and roots named anew: behind a piece of code only what is listed is known. -/
import Derived.Test.YtakpeibmaejmeaaD11
namespace Go.Proofs.Ytakpeibmaejmeaa.DM
open Go.RowKit

/-- The listed slots. -/
def lst (l : List (Nat × Dat)) : Nat → Dat := fun t => look l t .un

/-- d' is d with its root named anew: τ tells each new number's old one. -/
def renD (τ : Nat → Nat) : Dat → Dat → Prop
  | .p r q o, d => d = .p (τ r) q o
  | .sl r a b c, d => d = .sl (τ r) a b c
  | .tup n f, d => ∃ f', d = .tup n f' ∧ ∀ i, i < n → renD τ (f i) (f' i)
  | d', d => d = d' ∧ Sc 0 d

def SlotsR (τ : Nat → Nat) (n : Nat) (fr : Nat → Dat) : List (Nat × Dat) → Prop
  | [] => True
  | (x, v) :: l => (renD τ v (fr x) ∧ Sc n v) ∧ SlotsR τ n fr l

theorem look_mem {l : List (Nat × Dat)} {t : Nat} : look l t .un = .un ∨ ∃ v, (t, v) ∈ l ∧ look l t .un = v := by
  induction l with
  | nil => exact .inl rfl
  | cons x l ih =>
    obtain ⟨x, v⟩ := x
    simp only [look]
    cases e : Nat.beq x t with
    | true =>
      have := Nat.eq_of_beq_eq_true e
      subst this
      exact .inr ⟨v, by simp, rfl⟩
    | false =>
      rcases ih with h | ⟨v', h1, h2⟩
      · exact .inl h
      · exact .inr ⟨v', by simp [h1], h2⟩

theorem SlotsR.mem {τ : Nat → Nat} {n : Nat} {fr : Nat → Dat} : ∀ {l : List (Nat × Dat)}, SlotsR τ n fr l → ∀ {x : Nat} {v : Dat}, (x, v) ∈ l → renD τ v (fr x) ∧ Sc n v
  | (y, u) :: l, h, x, v, hm => by
    simp only [List.mem_cons, Prod.mk.injEq] at hm
    rcases hm with ⟨rfl, rfl⟩ | hm
    · exact h.1
    · exact h.2.mem hm

theorem renD_enc {τ : Nat → Nat} {ρ : Rho} : ∀ {d' d : Dat}, renD τ d' d → enc ρ d = enc (fun r => ρ (τ r)) d' := by
  intro d'
  induction d' <;> intro d h <;> simp only [renD] at h
  case p => rw [h]; rfl
  case sl => rw [h]; rfl
  case tup n f ih =>
    obtain ⟨f', rfl, h⟩ := h
    simp only [enc]
    congr 2
    exact List.map_congr_left fun i hi => ih i (h i (List.mem_range.1 hi))
  all_goals (obtain ⟨rfl, h⟩ := h; exact (enc_congr (n := 0) (fun _ h => absurd h (Nat.not_lt_zero _)) _ h).symm)

theorem renD_ok {τ : Nat → Nat} : ∀ {d' d : Dat}, renD τ d' d → Ok d → Ok d' := by
  intro d'
  induction d' <;> intro d h ho <;> simp only [renD] at h
  case p => exact ⟨trivial, trivial⟩
  case sl => exact ⟨trivial, trivial⟩
  case tup n f ih =>
    obtain ⟨f', rfl, h⟩ := h
    exact fun i hi => ih i (h i hi) (ho i hi)
  all_goals (obtain ⟨rfl, h⟩ := h; exact ho)

theorem renD_un {τ : Nat → Nat} {d : Dat} (h : renD τ .un d) : d = .un := h.1

section
variable {P : Program} {N K : Nat} {Q : Exit → St → Prop} {fr : Nat → Dat} {m m' : List Root}

/-- Seen with less known: the listed slots, the roots that are taken. -/
theorem Rel.cut {ρ : Rho} {a : Act} {w : World} {τ : Nat → Nat} {k : Nat} {l : List (Nat × Dat)} (hk : K ≤ k) (ht : Taken τ k m m') (hl : SlotsR τ m'.length fr l) (h : Rel N K ρ ⟨fr, m⟩ a w) :
    Rel N K (fun r => ρ (τ r)) ⟨lst l, m'⟩ a w ∧ TrK K ρ m w (fun r => ρ (τ r)) m' w := by
  obtain ⟨hf, hdf, hr, hK⟩ := h
  have hr' := hr.taken ht
  refine ⟨⟨⟨hf.size, fun t => ?_⟩, hdf, hr', Nat.le_trans hk ht.len⟩, ⟨rfl, rfl, rfl, Nat.le_refl _, fun r hr => by simp only [ht.fix r (by omega)], fun _ _ _ => rfl, fun r R q h1 h2 h3 => .inr ?_, fun r R q h1 h2 h3 => .inr ?_⟩⟩
  · rcases look_mem (l := l) (t := t) with h0 | ⟨v, h1, h2⟩
    · exact .inl h0
    · obtain ⟨g1, g2⟩ := hl.mem h1
      show Holds m'.length (fun r => ρ (τ r)) (look l t .un) _
      rw [h2]
      rcases hf.slot t with h3 | ⟨h3, _, h5⟩
      · have h3 : fr t = .un := h3
        rw [h3] at g1
        left
        cases v <;> simp only [renD] at g1 <;> first | (cases g1; done) | (obtain ⟨f', g1, _⟩ := g1; cases g1; done) | (obtain ⟨g1, _⟩ := g1; first | (cases g1; done) | exact g1.symm | rfl)
      · have h3 : a.tmps.getD t undef = enc ρ (fr t) := h3
        exact .inr ⟨by rw [h3]; exact renD_enc g1, g2, renD_ok g1 h5⟩
  · rcases ht.get r R h1 with rfl | ⟨R0, h4, h5, _⟩
    · cases h2
    · exact ⟨_, R0, q, h4, h5.mine h2, h5.atO h3, rfl⟩
  · rcases ht.get r R h1 with rfl | ⟨R0, h4, h5, _⟩
    · exact absurd rfl h2.ne
    · exact ⟨_, R0, q, h4, h5.at h2, h3, rfl⟩

/-- CUT: from here on the listed slots and the roots that are taken are all that is known. -/
theorem WP.cut (τ : Nat → Nat) (k : Nat) {c : Code} (l : List (Nat × Dat)) (m' : List Root) (hk : K ≤ k) (ht : Taken τ k m m') (hl : SlotsR τ m'.length fr l) (h : WP P N K c Q ⟨lst l, m'⟩) : WP P N K c Q ⟨fr, m⟩ := by
  intro ρ a w hrel
  obtain ⟨h1, h2⟩ := Rel.cut hk ht hl hrel
  exact wp_mono (h _ a w h1) fun _ _ _ q => Real.tr (s := ⟨fr, m⟩) (s1 := ⟨lst l, m'⟩) h2 q

theorem WPL.cut (τ : Nat → Nat) (k : Nat) {ops : Array Oper} {c : List Oper} (l : List (Nat × Dat)) (m' : List Root) (hk : K ≤ k) (ht : Taken τ k m m') (hl : SlotsR τ m'.length fr l) (h : WPL P N K ops Q c ⟨lst l, m'⟩) : WPL P N K ops Q c ⟨fr, m⟩ := by
  intro ρ a w hrel
  obtain ⟨h1, h2⟩ := Rel.cut hk ht hl hrel
  exact wpList_mono (fun _ _ _ q => Real.tr (s := ⟨fr, m⟩) (s1 := ⟨lst l, m'⟩) h2 q) _ _ _ (h _ a w h1)

/-- What holds once less is known. -/
def Cut (k : Nat) (I : St → Prop) (s : St) : Prop := ∃ τ l m', Taken τ k s.m m' ∧ SlotsR τ m'.length s.fr l ∧ I ⟨lst l, m'⟩

theorem WP.cutEnd {c : Code} {I : St → Prop} {s : St} (k : Nat) (hk : K ≤ k) (h : WP P N K c (Then (Cut k I) Q) s) : WP P N K c (Then I Q) s := by
  intro ρ a w hrel
  refine wp_mono (h ρ a w hrel) ?_
  rintro e a' w' ⟨ρ', s', h1, h2, h3⟩
  cases e with
  | normal =>
    obtain ⟨τ, l, m', g1, g2, g3⟩ := h3
    obtain ⟨k1, k2⟩ := Rel.cut hk g1 g2 h1
    exact ⟨_, _, k1, h2.trans k2, g3⟩
  | _ => exact ⟨ρ', s', h1, h2, h3⟩

/-- A LOOP, all that is known at its head being told by a thing x of which C holds. -/
theorem WP.loopT {c : Code} {X : Type} (k : Nat) (C : X → Prop) (l : X → List (Nat × Dat)) (mm : X → List Root) (μ : X → Nat) (x0 : X) (τ0 : Nat → Nat) (hk : K ≤ k) (h0 : C x0) (ht : Taken τ0 k m (mm x0)) (hs : SlotsR τ0 (mm x0).length fr (l x0))
    (round : ∀ x, C x → WP P N K c (Then (Cut k fun s' => ∃ x', C x' ∧ μ x' < μ x ∧ s' = ⟨lst (l x'), mm x'⟩) Q) ⟨lst (l x), mm x⟩) : WP P N K (.loop c) Q ⟨fr, m⟩ := by
  refine WP.cut τ0 k (l x0) (mm x0) hk ht hs ?_
  refine WP.loop (fun n s' => ∃ x, n = μ x ∧ C x ∧ s' = ⟨lst (l x), mm x⟩) (μ x0) ⟨x0, rfl, h0, rfl⟩ ?_
  rintro n s1 ⟨x, rfl, hC, rfl⟩
  refine (WP.cutEnd k hk (round x hC)).mono ?_
  intro e s' h
  cases e with
  | normal =>
    obtain ⟨x', hC', h1, h2⟩ := h
    exact ⟨μ x', h1, x', rfl, hC', h2⟩
  | _ => exact h

/-- The end of a round. -/
theorem Cut.next {X : Type} {k : Nat} {C : X → Prop} {l : X → List (Nat × Dat)} {mm : X → List Root} {μ : X → Nat} {x : X} (x' : X) (τ : Nat → Nat) (hC : C x') (hμ : μ x' < μ x) (ht : Taken τ k m (mm x')) (hs : SlotsR τ (mm x').length fr (l x')) :
    Cut k (fun s' => ∃ x', C x' ∧ μ x' < μ x ∧ s' = ⟨lst (l x'), mm x'⟩) ⟨fr, m⟩ := ⟨τ, l x', mm x', ht, hs, x', hC, hμ, rfl⟩

/-! ### Taken, root by root -/
/-- Number j was t, where t is the j-th of the list. -/
def pickT : List Nat → Nat → Nat
  | [], _ => 0
  | t :: _, 0 => t
  | _ :: l, j + 1 => pickT l j

def distinct : List Nat → Bool
  | [] => true
  | t :: l => bif memN l t then false else distinct l

def startsWith (k : Nat) : Nat → List Nat → Bool
  | i, [] => Nat.ble k i
  | i, t :: l => (Nat.ble k i || Nat.beq t i) && startsWith k (i + 1) l

/-- The j-th of the new roots stands for the root of that number. -/
def LeAll (k : Nat) (m : List Root) : List Nat → List Root → Prop
  | t :: ts, R :: l => (∃ R0, m[t]? = some R0 ∧ R0.Le R ∧ ∀ d, R.con = some d → Sc k d) ∧ LeAll k m ts l
  | [], [] => True
  | _, _ => False

theorem pickT_get : ∀ {ts : List Nat} {j : Nat}, j < ts.length → ts[j]? = some (pickT ts j)
  | t :: ts, 0, _ => rfl
  | t :: ts, j + 1, h => by simp only [List.getElem?_cons_succ, pickT]; exact pickT_get (by simpa using h)
  | [], j, h => by simp at h

theorem memN_iff : ∀ {l : List Nat} {t : Nat}, memN l t = true ↔ t ∈ l
  | [], t => by simp [memN]
  | x :: l, t => by
    simp only [memN, List.mem_cons]
    cases e : Nat.beq x t with
    | true => simp [(Nat.eq_of_beq_eq_true e).symm]
    | false =>
      have hne : t ≠ x := fun h => by subst h; rw [show Nat.beq t t = true from Nat.beq_refl t] at e; cases e
      simp only [cond_false, memN_iff, hne, false_or]

theorem distinct_inj : ∀ {ts : List Nat}, distinct ts = true → ∀ {i j : Nat}, i < ts.length → j < ts.length → pickT ts i = pickT ts j → i = j
  | [], _, i, j, h, _, _ => by simp at h
  | t :: ts, hd, i, j, hi, hj, e => by
    simp only [distinct] at hd
    cases hm : memN ts t with
    | true => rw [hm] at hd; cases hd
    | false =>
      rw [hm] at hd
      have hnot : ∀ {i : Nat}, i < ts.length → pickT ts i ≠ t := fun hi e => by
        have := pickT_get hi
        rw [e] at this
        have h2 := memN_iff.2 (List.mem_of_getElem? this)
        rw [hm] at h2; cases h2
      cases i with
      | zero =>
        cases j with
        | zero => rfl
        | succ j => exact absurd e.symm (hnot (by simpa using hj))
      | succ i =>
        cases j with
        | zero => exact absurd e (hnot (by simpa using hi))
        | succ j => rw [distinct_inj hd (by simpa using hi) (by simpa using hj) e]

theorem LeAll.get : ∀ {k : Nat} {ts : List Nat} {l : List Root}, LeAll k m ts l → ts.length = l.length ∧ ∀ {j : Nat} {R : Root}, l[j]? = some R → ∃ R0, m[pickT ts j]? = some R0 ∧ R0.Le R ∧ ∀ d, R.con = some d → Sc k d
  | k, [], [], _ => ⟨rfl, fun h => by simp at h⟩
  | k, [], _ :: _, h => h.elim
  | k, _ :: _, [], h => h.elim
  | k, t :: ts, R :: l, ⟨h1, h2⟩ => by
    obtain ⟨g1, g2⟩ := h2.get
    refine ⟨by simp [g1], fun {j R'} hj => ?_⟩
    cases j with
    | zero => simp only [List.getElem?_cons_zero, Option.some.injEq] at hj; subst hj; exact h1
    | succ j => exact g2 (by simpa using hj)

theorem startsWith_get {k : Nat} : ∀ {ts : List Nat} {i : Nat}, startsWith k i ts = true → k ≤ i + ts.length ∧ ∀ {j : Nat}, i + j < k → pickT ts j = i + j
  | [], i, h => by
    have := Nat.le_of_ble_eq_true h
    exact ⟨by simpa using this, fun {j} hj => by omega⟩
  | t :: ts, i, h => by
    simp only [startsWith, Bool.and_eq_true, Bool.or_eq_true] at h
    obtain ⟨h1, h2⟩ := h
    obtain ⟨g1, g2⟩ := startsWith_get h2
    refine ⟨by simp only [List.length_cons]; omega, fun {j} hj => ?_⟩
    cases j with
    | zero =>
      rcases h1 with h1 | h1
      · have := Nat.le_of_ble_eq_true h1; omega
      · simpa [pickT] using Nat.eq_of_beq_eq_true h1
    | succ j =>
      simp only [pickT]
      rw [g2 (by omega)]; omega

/-- TAKEN by a list: root j of the new memory stands for root ts[j] of the old one. -/
theorem Taken.of (ts : List Nat) {k : Nat} (h : LeAll k m ts m') (hd : distinct ts = true) (hs : startsWith k 0 ts = true) : Taken (fun j => bif Nat.blt j ts.length then pickT ts j else j) k m m' := by
  obtain ⟨g1, g2⟩ := h.get
  obtain ⟨f1, f2⟩ := startsWith_get hs
  have hlt : ∀ {j : Nat} {R : Root}, m'[j]? = some R → j < ts.length := fun h => by rw [g1]; exact (List.getElem?_eq_some_iff.1 h).1
  have ht : ∀ {j : Nat}, j < ts.length → (bif Nat.blt j ts.length then pickT ts j else j) = pickT ts j := fun {j} h => by rw [show Nat.blt j ts.length = true from by rw [Nat.blt_eq]; exact h]; rfl
  refine ⟨fun j R hj => .inr ?_, fun i j R R' hi hj _ _ e => ?_, fun r hr => ?_, by omega⟩
  · rw [ht (hlt hj)]; exact g2 hj
  · rw [ht (hlt hi), ht (hlt hj)] at e
    exact distinct_inj hd (hlt hi) (hlt hj) e
  · rw [ht (by omega)]
    have := f2 (j := r) (by omega)
    omega

end
end Go.Proofs.Ytakpeibmaejmeaa.DM
