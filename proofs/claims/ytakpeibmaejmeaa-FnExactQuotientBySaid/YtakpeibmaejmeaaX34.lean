/- Quotients: the program's public function. -/
import Derived.Test.YtakpeibmaejmeaaX33
namespace Go.Proofs.Ytakpeibmaejmeaa
open Go.RowKit DM
set_option linter.unusedSimpArgs false
set_option linter.unusedVariables false
set_option maxRecDepth 100000
set_option maxHeartbeats 1000000

/-- Two arrays of sixteen numbers: equal or not. -/
def eq16 (f g : Nat → Nat) : Nat → Nat → Bool
  | _, 0 => true
  | i, n + 1 => decide ((f i : Int) = (g i : Int)) && eq16 f g (i + 1) n
def eqDs (n : Int) (b w : Nat → Nat) (n' : Int) (b' w' : Nat → Nat) : Bool := decide (n = n') && (eq16 b b' 0 16 && (eq16 w w' 0 16 && true))

theorem eq_ds_neq (n : Int) (b w : Nat → Nat) (n' : Int) (b' w' : Nat → Nat) : eqE T .neq 37 (ds_ n b w) (ds_ n' b' w') = some (!eqDs n b w n' b' w') := by rfl

theorem eq16_get {f g : Nat → Nat} : ∀ {n i : Nat}, eq16 f g i n = true → ∀ j, j < n → f (i + j) = g (i + j)
  | 0, i, _, j, hj => absurd hj (Nat.not_lt_zero _)
  | n + 1, i, h, 0, _ => by
    simp only [eq16, Bool.and_eq_true, decide_eq_true_eq] at h
    exact_mod_cast h.1
  | n + 1, i, h, j + 1, hj => by
    simp only [eq16, Bool.and_eq_true, decide_eq_true_eq] at h
    have := eq16_get h.2 j (by omega)
    rwa [show i + 1 + j = i + (j + 1) by omega] at this

theorem renTo_at {N : Nat} {p : Nat → Nat} (hp : Perm N p) (b : Nat → Nat) : ∀ k, k ≤ N → ∀ x, x < k → renTo p b k (p x) = p (b x)
  | 0, _, x, h => absurd h (Nat.not_lt_zero _)
  | k + 1, hk, x, h => by
    simp only [renTo, up]
    by_cases e : x = k
    · subst e; rw [if_pos rfl]
    · rw [if_neg fun e2 => e (hp.inj x k (by omega) (by omega) e2)]
      exact renTo_at hp b k (by omega) x (by omega)

theorem comm_of {N : Nat} {b w p : Nat → Nat} (hN : N ≤ 16) (hp : Perm N p) (h : eqDs N (renTo p b N) (renTo p w N) N b w = true) : (∀ x, x < N → p (b x) = b (p x)) ∧ ∀ x, x < N → p (w x) = w (p x) := by
  simp only [eqDs, Bool.and_eq_true] at h
  obtain ⟨_, h1, h2, _⟩ := h
  constructor
  · intro x hx
    have := hp.lt x hx
    have h3 := eq16_get h1 (p x) (by omega)
    rw [Nat.zero_add, renTo_at hp b N (Nat.le_refl _) x hx] at h3
    exact h3
  · intro x hx
    have := hp.lt x hx
    have h3 := eq16_get h2 (p x) (by omega)
    rw [Nat.zero_add, renTo_at hp w N (Nat.le_refl _) x hx] at h3
    exact h3

theorem qTo_val {F b tB : Nat → Nat} : ∀ k, (∀ x, x < k → F (b x) = tB (F x)) → ∀ j, ((∀ x, x < k → F x ≠ j) ∧ qTo F b k j = 0) ∨ ((∃ x, x < k ∧ F x = j) ∧ qTo F b k j = tB j)
  | 0, _, j => .inl ⟨fun x h => absurd h (Nat.not_lt_zero _), rfl⟩
  | k + 1, h, j => by
    simp only [qTo, up]
    by_cases e : j = F k
    · rw [if_pos e]
      exact .inr ⟨⟨k, by omega, e.symm⟩, by rw [h k (by omega), e]⟩
    · rw [if_neg e]
      rcases qTo_val k (fun x hx => h x (by omega)) j with ⟨h1, h2⟩ | ⟨⟨x, hx, h1⟩, h2⟩
      · refine .inl ⟨fun x hx => ?_, h2⟩
        by_cases e2 : x = k
        · subst e2; exact fun h => e h.symm
        · exact h1 x (by omega)
      · exact .inr ⟨⟨x, by omega, h1⟩, h2⟩

/-- Each number's part, and where the parts lead. -/
def prtF (L : List (List Nat)) : Nat → Nat := ptF L L.length 0
def ldF (L : List (List Nat)) (b : Nat → Nat) (k : Nat) : Nat := prtF L (b ((L.getD k []).getD 0 0))

theorem prt_lt {N : Nat} (hN : N ≤ 16) {p : Nat → Nat} (hp : Perm N p) {x : Nat} (hx : x < N) : prtF (cycs p N) x < (cycs p N).length := by
  obtain ⟨h1, h2, _⟩ := pt_end hN hp hx
  unfold prtF; rw [h1]; exact h2

theorem head_lt {N : Nat} (hN : N ≤ 16) {p : Nat → Nat} (hp : Perm N p) {k : Nat} (hk : k < (cycs p N).length) : ((cycs p N).getD k []).getD 0 0 < N ∧ 0 < ((cycs p N).getD k []).length := by
  have h := cyTo_inv hN hp N (Nat.le_refl _)
  exact ⟨h.lt k _ (getD_mem (h.pos k hk)), h.pos k hk⟩

theorem qTo_end {N : Nat} (hN : N ≤ 16) {p b : Nat → Nat} (hp : Perm N p) (hb : ∀ i, i < N → b i < N) (hc : ∀ x, x < N → p (b x) = b (p x)) : qTo (prtF (cycs p N)) b N = fillF (ldF (cycs p N) b) (cycs p N).length := by
  have h := cyTo_inv hN hp N (Nat.le_refl _)
  have key := qTo_val (F := prtF (cycs p N)) (b := b) (tB := ldF (cycs p N) b) N fun x hx => by
    have h1 := cls_comm hN hp hb hc hx
    have e : ∀ y, y < N → prtF (cycs p N) y = clsF (cycs p N) y := fun y hy => (pt_end hN hp hy).1
    unfold ldF
    rw [e _ (hb x hx), e x hx, h1, e _ (hb _ ?_)]
    exact (head_lt hN hp (pt_end hN hp hx).2.1).1
  funext j
  unfold fillF
  rcases key j with ⟨h1, h2⟩ | ⟨⟨x, hx, h1⟩, h2⟩
  · rw [h2]
    by_cases e : j < (cycs p N).length
    · exfalso
      have hh := head_lt hN hp e
      refine h1 _ hh.1 ?_
      unfold prtF
      rw [(pt_end hN hp hh.1).1]
      exact cls_of h.uniq (getD_mem hh.2)
    · rw [if_neg e]
  · rw [h2, if_pos (h1 ▸ prt_lt hN hp hx)]

noncomputable def quR (n : Int) (b w p : Nat → Nat) : Dat × List Root := bif desB n b w && permB p n then (bif eqDs n (renTo p b n.toNat) (renTo p w n.toNat) n b w then
  (t3 (ds_ (cycs p n.toNat).length (fillF (ldF (cycs p n.toNat) b) (cycs p n.toNat).length) (fillF (ldF (cycs p n.toNat) w) (cycs p n.toNat).length)) (.sl 0 0 n.toNat 1) (.i .i64 0), [.row 2 n.toNat 1 (nmF (prtF (cycs p n.toNat)))])
  else (t3 (ds_ 0 (fun _ => 0) (fun _ => 0)) .ns (.i .i64 5), [])) else (t3 (ds_ 0 (fun _ => 0) (fun _ => 0)) .ns (.i .i64 1), [])

theorem ren_t3 {τ : Nat → Nat} {a b c a' b' c' : Dat} (h1 : renD τ a a') (h2 : renD τ b b') (h3 : renD τ c c') : renD τ (t3 a b c) (t3 a' b' c') :=
  ⟨_, rfl, fun i _ => by
    rcases i with _ | _ | i
    · exact h1
    · exact h2
    · exact h3⟩

end Go.Proofs.Ytakpeibmaejmeaa
