import Derived.Test.YtakapfgjdhliaaaD34
/- A cell's slice told as it lies, not by a root: the root is free to go elsewhere. -/
namespace Go.Proofs.Ytakapfgjdhliaaa.DM
open Go.RowKit
set_option linter.unusedVariables false
set_option linter.unusedSimpArgs false

section
variable {P : Program} {T : TyEnv} {N K : Nat} {Q : Exit → St → Prop} {fr : Nat → Dat} {m : List Root}

theorem nav_up {f : Nat → Dat} {i n t : Nat} {e0 : TypeId} {v : RV} {a b c : Nat} {q : List Nat} {e : TypeId} {k s : Nat} {g : Nat → Dat} (hq : q ≠ []) (h : nav (.ow e0 n t (fup f i (.sa v a b c))) q = some (.ow e k s g)) : nav (.ow e0 n t f) q = some (.ow e k s g) := by
  cases q with
  | nil => exact absurd rfl hq
  | cons j q =>
    simp only [nav] at h ⊢
    split at h
    · rename_i hj
      rw [if_pos hj]
      by_cases e1 : j = i
      · subst e1
        rw [fup_same] at h
        cases q with
        | nil => simp [nav] at h
        | cons x q => simp [nav] at h
      · rw [fup_ne _ _ e1] at h; exact h
    · cases h

theorem cells_up {ρ : Rho} {A : List Nat → RV} {f : Nat → Dat} {i n t r a b c : Nat} (hf : f i = .sl r a b c) : cells ρ A (.ar n t (fup f i (.sa (ρ r []) a b c))) = cells ρ A (.ar n t f) := by
  simp only [cells]
  refine flatMap_congr fun j _ => ?_
  by_cases e1 : j = i
  · subst e1; rw [fup_same, hf]; simp [cells, leaf]
  · rw [fup_ne _ _ e1]

theorem Rep.giveUp {ρ : Rho} {w : World} (h : Rep ρ m w) {k i : Nat} {e0 : TypeId} {n t r a b c : Nat} {f : Nat → Dat} (hk : m[k]? = some (.row e0 n t f)) (hf : f i = .sl r a b c) :
    Rep ρ (m.set k (.row e0 n t (fup f i (.sa (ρ r []) a b c)))) w ∧ TrK K ρ m w ρ (m.set k (.row e0 n t (fup f i (.sa (ρ r []) a b c)))) w := by
  have hkl : k < m.length := (List.getElem?_eq_some_iff.1 hk).1
  have get : ∀ {j : Nat} {R : Root}, (m.set k (.row e0 n t (fup f i (.sa (ρ r []) a b c))))[j]? = some R → (j = k ∧ R = .row e0 n t (fup f i (.sa (ρ r []) a b c))) ∨ (j ≠ k ∧ m[j]? = some R) := fun {j R} hj => by
    by_cases e : k = j
    · subst e; rw [List.getElem?_set_self hkl] at hj; exact .inl ⟨rfl, (Option.some.inj hj).symm⟩
    · rw [List.getElem?_set_ne e] at hj; exact .inr ⟨fun h => e h.symm, hj⟩
  have place : ∀ {j : Nat} {R : Root} {q : List Nat}, (m.set k (.row e0 n t (fup f i (.sa (ρ r []) a b c))))[j]? = some R → At R q → ∃ R0, m[j]? = some R0 ∧ At R0 q := fun {j R q} hj hq => by
    rcases get hj with ⟨rfl, rfl⟩ | ⟨_, h1⟩
    · refine ⟨_, hk, ?_⟩
      by_cases e : q = []
      · subst e; exact .inl ⟨rfl, rfl⟩
      · rcases hq with ⟨h1, _⟩ | ⟨d, e', n', s', g', h1, h2⟩
        · exact absurd h1 e
        · cases h1; exact .inr ⟨_, e', n', s', g', rfl, nav_up e h2⟩
    · exact ⟨R, h1, hq⟩
  have placeO : ∀ {j : Nat} {R : Root} {q : List Nat}, (m.set k (.row e0 n t (fup f i (.sa (ρ r []) a b c))))[j]? = some R → R.mine = true → AtO R q → ∃ R0, m[j]? = some R0 ∧ R0.mine = true ∧ AtO R0 q := fun {j R q} hj hm hq => by
    rcases get hj with ⟨rfl, rfl⟩ | ⟨_, h1⟩
    · refine ⟨_, hk, rfl, ?_⟩
      by_cases e : q = []
      · subst e; exact .inl ⟨rfl, rfl⟩
      · rcases hq with ⟨h1, _⟩ | ⟨d, e', n', s', g', h1, h2, h3⟩
        · exact absurd h1 e
        · cases h1; exact .inr ⟨_, e', n', s', g', rfl, nav_up e h2, h3⟩
    · exact ⟨R, h1, hm, hq⟩
  refine ⟨⟨fun j d hj => ?_, fun j R d q e n' s g hj hm hc hn hq => ?_, fun j R d q e n' s g hj hm hc hn => ?_, fun j R q j' R' q' hj hj' hm hq hq' hnl hd => ?_, fun j R d hj hc => ?_, fun j b' l hj => ?_⟩, ⟨rfl, rfl, Nat.le_refl _, rfl, Nat.le_refl _, fun _ _ => rfl, fun _ _ _ => rfl, fun j R q hj hm hq => .inr ?_, fun j R q hj hq hnl => .inr ?_⟩⟩
  · rcases get hj with ⟨_, h1⟩ | ⟨_, h1⟩
    · cases h1
    · exact h.var j d h1
  · rcases get hj with ⟨rfl, rfl⟩ | ⟨_, h1⟩
    · cases hc
      by_cases e1 : q = []
      · subst e1
        simp only [nav, Option.some.injEq, Dat.ow.injEq] at hn
        obtain ⟨rfl, rfl, rfl, rfl⟩ := hn
        exact (h.row j _ _ [] e0 n t f hk rfl rfl rfl (.inl rfl)).cells (cells_up hf)
      · exact h.row j _ _ q e n' s g hk rfl rfl (nav_up e1 hn) hq
    · exact h.row j R d q e n' s g h1 hm hc hn hq
  · rcases get hj with ⟨rfl, rfl⟩ | ⟨_, h1⟩
    · cases hc
      rcases hm with hm | ⟨h2, h3⟩
      · cases hm
      · exact h.ro j _ _ q e n' s g hk (.inr ⟨h2, h3⟩) rfl (nav_up h2 hn)
    · exact h.ro j R d q e n' s g h1 hm hc hn
  · obtain ⟨R0, g1, g2, g3⟩ := placeO hj hm hq
    obtain ⟨R0', g1', g2'⟩ := place hj' hq'
    exact h.sep j R0 q j' R0' q' g1 g1' g2 g3 g2' hnl hd
  · rw [List.length_set]
    rcases get hj with ⟨rfl, rfl⟩ | ⟨_, h1⟩
    · cases hc
      obtain ⟨h2, h3⟩ := h.wf j _ _ hk rfl
      refine ⟨fun x hx => ?_, fun x hx => ?_⟩
      · by_cases e1 : x = i
        · subst e1
          rw [fup_same]
          have := h2 x hx
          rw [hf] at this
          exact this
        · rw [fup_ne _ _ e1]; exact h2 x hx
      · by_cases e1 : x = i
        · subst e1; rw [fup_same]; trivial
        · rw [fup_ne _ _ e1]; exact h3 x hx
    · exact h.wf j R d h1 hc
  · rcases get hj with ⟨_, h1⟩ | ⟨_, h1⟩
    · cases h1
    · exact h.mp j b' l h1
  · obtain ⟨R0, g1, g2, g3⟩ := placeO hj hm hq
    exact ⟨j, R0, q, g1, g2, g3, rfl⟩
  · obtain ⟨R0, g1, g2⟩ := place hj hq
    exact ⟨j, R0, q, g1, g2, hnl, rfl⟩

/-- A cell's slice is given up: the cell is told as it lies. -/
theorem WP.giveUp {x : Code} {k i : Nat} {e0 : TypeId} {n t r a b c : Nat} {f : Nat → Dat} (hk : m[k]? = some (.row e0 n t f)) (hf : f i = .sl r a b c) (h : ∀ v : RV, WP P N K x Q ⟨fr, m.set k (.row e0 n t (fup f i (.sa v a b c)))⟩) : WP P N K x Q ⟨fr, m⟩ := by
  intro ρ a' w ⟨h1, h2, h3, h4⟩
  obtain ⟨g1, g2⟩ := h3.giveUp (K := K) hk hf
  refine wp_mono (h (ρ r []) ρ a' w ⟨?_, h2, g1, ?_⟩) fun _ _ _ q => Real.tr g2 q
  · simpa using h1
  · simpa using h4

/-- A row of one's own inside a row is looked up: it becomes a root. -/
theorem load_row (hT : TOK P T) {o : Oper} {t : TypeId} {x : Operand} {r j off : Nat} {e0 by0 e1 e n k s s' : Nat} {z0 : Dat} {f g : Nat → Dat} (ho : o.op = .load t x) (hx : ev fr x = .p r [j] off) (ht : T t = some ⟨.slice e0, 1, by0, z0⟩) (hR : m[r]? = some (.row e1 n s f)) (hf : f j = .ow e k s' g) (he : Nat.beq e 0 = false) (hj : j < n) (hoff : 0 + j * s = off) :
    QOK P o fr m (.sl m.length 0 k s') (m.set r (.row e1 n s (fup f j (.sl m.length 0 k s'))) ++ [.row e k s' g]) := by
  refine load_own hT (R := .row e1 n s f) (ps := [j < n]) ho hx ht hR rfl ?_ he hj ?_
  · show (match DM.navE (f j) [] with | some (ps, x) => some ((j < n) :: ps, x) | none => none) = _
    rw [hf]; rfl
  · exact hoff

end
end Go.Proofs.Ytakapfgjdhliaaa.DM

/- A slice that is nil inside a row: told as a row of no elements. -/
namespace Go.Proofs.Ytakapfgjdhliaaa.DM
open Go.RowKit
set_option linter.unusedVariables false
set_option linter.unusedSimpArgs false

section
variable {P : Program} {T : TyEnv} {N K : Nat} {Q : Exit → St → Prop} {fr : Nat → Dat} {m : List Root}

/-- The map, the place [i] of root k being nil. -/
def nilR (ρ : Rho) (k i : Nat) : Rho := fun r q => if r = k ∧ q = [i] then ⟨true, 0, 0, 0, none, 0⟩ else ρ r q
theorem nilR_ne (ρ : Rho) (k i : Nat) {r : Nat} {q : List Nat} (h : r ≠ k ∨ q ≠ [i]) : nilR ρ k i r q = ρ r q := by
  unfold nilR; rw [if_neg]; rintro ⟨h1, h2⟩; rcases h with h | h <;> contradiction

theorem Rep.nilIn {ρ : Rho} {w : World} (h : Rep ρ m w) {k i : Nat} {e0 e s : Nat} {n t : Nat} {f g : Nat → Dat} (hk : m[k]? = some (.row e0 n t f)) (hf : f i = .ns) (hi : i < n) :
    Rep (nilR ρ k i) (m.set k (.ro n t (fup f i (.ow e 0 s g)))) w ∧ TrK K ρ m w (nilR ρ k i) (m.set k (.ro n t (fup f i (.ow e 0 s g)))) w := by
  have hkl : k < m.length := (List.getElem?_eq_some_iff.1 hk).1
  have hρ0 : ∀ r, nilR ρ k i r [] = ρ r [] := fun r => nilR_ne ρ k i (.inr (by simp))
  have hρk : ∀ r, r ≠ k → nilR ρ k i r = ρ r := fun r hr => by funext q; exact nilR_ne ρ k i (.inl hr)
  have hat : nilR ρ k i k [i] = ⟨true, 0, 0, 0, none, 0⟩ := by unfold nilR; rw [if_pos ⟨rfl, rfl⟩]
  have get : ∀ {j : Nat} {R : Root}, (m.set k (.ro n t (fup f i (.ow e 0 s g))))[j]? = some R → (j = k ∧ R = .ro n t (fup f i (.ow e 0 s g))) ∨ (j ≠ k ∧ m[j]? = some R) := fun {j R} hj => by
    by_cases e : k = j
    · subst e; rw [List.getElem?_set_self hkl] at hj; exact .inl ⟨rfl, (Option.some.inj hj).symm⟩
    · rw [List.getElem?_set_ne e] at hj; exact .inr ⟨fun h => e h.symm, hj⟩
  have hsc := (h.wf k _ _ hk rfl).2
  have hwf := (h.wf k _ _ hk rfl).1
  -- a place inside, not the nil one, lies in the old row
  have inn : ∀ {q : List Nat} {e' n' s' : Nat} {f' : Nat → Dat}, q ≠ [] → nav (.ow 0 n t (fup f i (.ow e 0 s g))) q = some (.ow e' n' s' f') → (q = [i] ∧ n' = 0) ∨ (q ≠ [i] ∧ nav (.ow e0 n t f) q = some (.ow e' n' s' f')) := fun {q e' n' s' f'} hq hn => by
    cases q with
    | nil => exact absurd rfl hq
    | cons j z =>
      simp only [nav] at hn ⊢
      split at hn
      · rename_i hj
        by_cases e1 : j = i
        · subst e1
          rw [fup_same] at hn
          cases z with
          | nil =>
            simp only [nav, Option.some.injEq, Dat.ow.injEq] at hn
            exact .inl ⟨rfl, hn.2.1.symm⟩
          | cons x z => simp [nav] at hn
        · rw [fup_ne _ _ e1] at hn
          exact .inr ⟨fun e2 => e1 (List.cons.inj e2).1, by rw [if_pos hj]; exact hn⟩
      · cases hn
  have place : ∀ {j : Nat} {R : Root} {q : List Nat}, (m.set k (.ro n t (fup f i (.ow e 0 s g))))[j]? = some R → At R q → (nilR ρ k i j q).nil = false → (∃ R0, m[j]? = some R0 ∧ At R0 q) ∧ nilR ρ k i j q = ρ j q := fun {j R q} hj hq hz => by
    rcases get hj with ⟨rfl, rfl⟩ | ⟨h0, h1⟩
    · by_cases e : q = []
      · subst e; exact ⟨⟨_, hk, .inl ⟨rfl, rfl⟩⟩, hρ0 _⟩
      · rcases hq with ⟨h1, _⟩ | ⟨d, e', n', s', g', h1, h2⟩
        · exact absurd h1 e
        · cases h1
          rcases inn e h2 with ⟨rfl, _⟩ | ⟨h3, h4⟩
          · rw [hat] at hz; cases hz
          · exact ⟨⟨_, hk, .inr ⟨_, e', n', s', g', rfl, h4⟩⟩, nilR_ne ρ j i (.inr h3)⟩
    · exact ⟨⟨R, h1, hq⟩, by rw [hρk j h0]⟩
  have hcell : cells (nilR ρ k i) (nilR ρ k i k) (.ar n t (fup f i (.ow e 0 s g))) = cells ρ (ρ k) (.ar n t f) := by
    simp only [cells]
    refine flatMap_congr fun j hj => ?_
    by_cases e1 : j = i
    · subst e1
      rw [fup_same, hf]
      simp only [cells, leaf, hat, RV.slice]
    · rw [fup_ne _ _ e1]
      have e2 : (fun q => nilR ρ k i k (j :: q)) = fun q => ρ k (j :: q) := by
        funext q; exact nilR_ne ρ k i (.inr fun e2 => e1 (List.cons.inj e2).1)
      rw [e2]
      exact cells_congr (n := m.length) (fun r _ => hρ0 r) (f j) _ (hsc j (List.mem_range.1 hj))
  have scow : ∀ {r : Nat} {R : Root} {d : Dat} {q : List Nat} {e : TypeId} {n s : Nat} {f : Nat → Dat}, m[r]? = some R → R.con = some d → nav d q = some (.ow e n s f) → Sc m.length (.ar n s f) :=
    fun {_ _ _ _ e n s f} h1 h2 h3 => show Sc m.length (.ow e n s f) from sc_nav h3 (h.wf _ _ _ h1 h2).2
  refine ⟨⟨fun j d hj => ?_, fun j R d q e' n' s' g' hj hm hc hn hq => ?_, fun j R d q e' n' s' g' hj hm hc hn => ?_, fun j R q j' R' q' hj hj' hm hq hq' hnl hd => ?_, fun j R d hj hc => ?_, fun j b' l hj => ?_⟩, ⟨rfl, rfl, Nat.le_refl _, rfl, Nat.le_refl _, fun r _ => hρ0 r, fun _ _ _ => rfl, fun j R q hj hm hq => .inr ?_, fun j R q hj hq hnl => .inr ?_⟩⟩
  · rcases get hj with ⟨_, h1⟩ | ⟨h0, h1⟩
    · cases h1
    · rw [hρk j h0]; exact (h.var j d h1).rho (n := m.length) (fun r _ => hρ0 r) (h.wf j _ d h1 rfl).2
  · rcases get hj with ⟨rfl, rfl⟩ | ⟨h0, h1⟩
    · cases hm
    · rw [hρk j h0]; exact (h.row j R d q e' n' s' g' h1 hm hc hn hq).rho (n := m.length) (fun r _ => hρ0 r) (scow h1 hc hn)
  · rcases get hj with ⟨rfl, rfl⟩ | ⟨h0, h1⟩
    · cases hc
      by_cases e1 : q = []
      · subst e1
        simp only [nav, Option.some.injEq, Dat.ow.injEq] at hn
        obtain ⟨rfl, rfl, rfl, rfl⟩ := hn
        rcases (h.row j _ _ [] e0 n t f hk rfl rfl rfl (.inl rfl)).ro with h9 | ⟨a1, a2, a3, a4, a5⟩
        · exact .inl (by rw [hρ0]; exact h9)
        · refine .inr ⟨by rw [hρ0]; exact a1, by rw [hρ0]; exact a2, a3, by rw [hρ0]; exact a4, fun x u hu => ?_⟩
          rw [hρ0]
          exact a5 x u (by rw [← hu]; exact congrArg (fun L => L[x]?) hcell.symm)
      · rcases inn e1 hn with ⟨rfl, rfl⟩ | ⟨h3, h4⟩
        · exact .inl ⟨by rw [hat], rfl⟩
        · have hz : (fun z => nilR ρ j i j (q ++ z)) = fun z => ρ j (q ++ z) := by
            funext z
            refine nilR_ne ρ j i (.inr fun e2 => ?_)
            cases q with
            | nil => exact e1 rfl
            | cons a q =>
              have e3 := List.cons.inj e2
              have e4 := List.append_eq_nil_iff.1 e3.2
              exact h3 (by rw [e3.1, e4.1])
          rw [hz, nilR_ne ρ j i (.inr h3)]
          have hro : RoOK ρ w (ρ j q) (fun z => ρ j (q ++ z)) n' s' g' := by
            by_cases e2 : e' = 0
            · subst e2; exact h.ro j _ _ q 0 n' s' g' hk (.inr ⟨e1, rfl⟩) rfl h4
            · exact (h.row j _ _ q e' n' s' g' hk rfl rfl h4 (.inr e2)).ro
          exact hro.rho (n := m.length) (fun r _ => hρ0 r) (scow hk rfl h4)
    · rw [hρk j h0]; exact (h.ro j R d q e' n' s' g' h1 hm hc hn).rho (n := m.length) (fun r _ => hρ0 r) (scow h1 hc hn)
  · obtain ⟨⟨R0', g1', g2'⟩, g3'⟩ := place hj' hq' hnl
    rcases get hj with ⟨rfl, rfl⟩ | ⟨h0, h1⟩
    · cases hm
    · rw [hρk j h0, g3']
      rw [g3'] at hnl
      exact h.sep j R q j' R0' q' h1 g1' hm hq g2' hnl hd
  · rw [List.length_set]
    rcases get hj with ⟨rfl, rfl⟩ | ⟨_, h1⟩
    · cases hc
      refine ⟨fun x hx => ?_, fun x hx => ?_⟩
      · by_cases e1 : x = i
        · subst e1
          rw [fup_same]
          have := hwf x hx
          rw [hf] at this
          exact ⟨this.1, fun y hy => absurd hy (Nat.not_lt_zero _)⟩
        · rw [fup_ne _ _ e1]; exact hwf x hx
      · by_cases e1 : x = i
        · subst e1; rw [fup_same]; exact fun y hy => absurd hy (Nat.not_lt_zero _)
        · rw [fup_ne _ _ e1]; exact hsc x hx
    · exact h.wf j R d h1 hc
  · rcases get hj with ⟨_, h1⟩ | ⟨h0, h1⟩
    · cases h1
    · rw [hρk j h0]; exact h.mp j b' l h1
  · rcases get hj with ⟨rfl, rfl⟩ | ⟨h0, h1⟩
    · cases hm
    · exact ⟨j, R, q, h1, hm, hq, by rw [hρk j h0]⟩
  · obtain ⟨⟨R0, g1, g2⟩, g3⟩ := place hj hq hnl
    rw [g3] at hnl ⊢
    exact ⟨j, R0, q, g1, g2, hnl, rfl⟩

/-- A nil slice in a row's cell: the row is frozen, the cell a row of no elements. -/
theorem WP.nilIn {x : Code} {k i : Nat} {e0 e s : Nat} {n t : Nat} {f g : Nat → Dat} (hk : m[k]? = some (.row e0 n t f)) (hf : f i = .ns) (hi : i < n) (h : WP P N K x Q ⟨fr, m.set k (.ro n t (fup f i (.ow e 0 s g)))⟩) : WP P N K x Q ⟨fr, m⟩ := by
  intro ρ a' w ⟨h1, h2, h3, h4⟩
  obtain ⟨g1, g2⟩ := h3.nilIn (K := K) (e := e) (s := s) (g := g) hk hf hi
  refine wp_mono (h (nilR ρ k i) a' w ⟨?_, h2, g1, ?_⟩) fun _ _ _ q => Real.tr g2 q
  · exact Frm.same (by simp) (fun r _ => nilR_ne ρ k i (.inr (by simp))) h1
  · simpa using h4
end
end Go.Proofs.Ytakapfgjdhliaaa.DM
