import Derived.Test.YthjnmlpibafbnaaD1
namespace Go.Proofs.Ythjnmlpibafbnaa.DM
open Go.RowKit
theorem VarOK.rho {n : Nat} {ρ ρ' : Rho} (hρ : ∀ r, r < n → ρ' r [] = ρ r []) {w : World} {v : RV} {A : List Nat → RV} {d : Dat} (hs : Sc n d) (h : VarOK ρ w v A d) : VarOK ρ' w v A d := by
  obtain ⟨blk, t, h1, h2, h3, h4⟩ := h
  exact ⟨blk, t, h1, h2, h3, by rw [h4, cells_congr hρ d A hs]⟩
theorem RowOK.rho {n : Nat} {ρ ρ' : Rho} (hρ : ∀ r, r < n → ρ' r [] = ρ r []) {w : World} {v : RV} {A : List Nat → RV} {e : TypeId} {k s : Nat} {f : Nat → Dat} (hs : Sc n (.ar k s f)) (h : RowOK ρ w v A e k s f) : RowOK ρ' w v A e k s f := by
  obtain ⟨blk, h1, h2, h3, h4, h5, h6, h7⟩ := h
  exact ⟨blk, h1, h2, h3, h4, h5, h6, by rw [h7, cells_congr hρ _ A hs]⟩
theorem RoOK.rho {n : Nat} {ρ ρ' : Rho} (hρ : ∀ r, r < n → ρ' r [] = ρ r []) {w : World} {v : RV} {A : List Nat → RV} {k s : Nat} {f : Nat → Dat} (hs : Sc n (.ar k s f)) (h : RoOK ρ w v A k s f) : RoOK ρ' w v A k s f := by
  rcases h with h | ⟨h1, h2, h3, h4, h5⟩
  · exact .inl h
  · exact .inr ⟨h1, h2, h3, h4, by rw [cells_congr hρ _ A hs]; exact h5⟩
theorem sc_nav {n : Nat} : ∀ {q : List Nat} {d x : Dat}, nav d q = some x → Sc n d → Sc n x
  | [], d, x, h, hs => by simp only [nav, Option.some.injEq] at h; exact h ▸ hs
  | i :: q, d, x, h, hs => by
    cases d <;> simp only [nav] at h <;> first | (cases h; done) | skip
    all_goals
      split at h
      · rename_i hi; exact sc_nav h (hs i hi)
      · cases h
theorem wf_nav : ∀ {q : List Nat} {d x : Dat}, nav d q = some x → WF d → WF x
  | [], d, x, h, hs => by simp only [nav, Option.some.injEq] at h; exact h ▸ hs
  | i :: q, d, x, h, hs => by
    cases d <;> simp only [nav] at h <;> first | (cases h; done) | skip
    case ar n s f => split at h; (rename_i hi; exact wf_nav h (hs i hi).2); cases h
    case st n f => split at h; (rename_i hi; exact wf_nav h (hs i hi)); cases h
    case ow e n s f => split at h; (rename_i hi; exact wf_nav h (hs i hi).2); cases h
theorem Pl_nav : ∀ {q : List Nat} {d : Dat} {e : TypeId} {n s : Nat} {f : Nat → Dat}, Pl d → nav d q ≠ some (.ow e n s f)
  | [], d, e, n, s, f, h, hq => by simp only [nav, Option.some.injEq] at hq; subst hq; exact h
  | i :: q, d, e, n, s, f, h, hq => by
    cases d <;> simp only [nav] at hq <;> first | (cases hq; done) | skip
    case ar n s f => split at hq; (rename_i hi; exact Pl_nav (h i hi) hq); cases hq
    case st n f => split at hq; (rename_i hi; exact Pl_nav (h i hi) hq); cases hq
    case ow => exact h
theorem Rep.rho {ρ ρ' : Rho} {m : List Root} {w : World} (h : Rep ρ m w) (hρ : ∀ r, r < m.length → ρ' r = ρ r) : Rep ρ' m w := by
  have lt : ∀ {r : Nat} {R : Root}, m[r]? = some R → r < m.length := fun h => (List.getElem?_eq_some_iff.1 h).1
  have hρ' : ∀ r, r < m.length → ρ' r [] = ρ r [] := fun r hr => by rw [hρ r hr]
  have scow : ∀ {r : Nat} {R : Root} {d : Dat} {q : List Nat} {e : TypeId} {n s : Nat} {f : Nat → Dat}, m[r]? = some R → R.con = some d → nav d q = some (.ow e n s f) → Sc m.length (.ar n s f) :=
    fun {_ _ _ _ e n s f} h1 h2 h3 => show Sc m.length (.ow e n s f) from sc_nav h3 (h.wf _ _ _ h1 h2).2
  refine ⟨fun r d hr => ?_, fun r R d q e n s f h1 h2 h3 h4 h5 => ?_, fun r R d q e n s f h1 h2 h3 h4 => ?_, fun r R q r' R' q' h1 h2 h3 h4 h5 h6 h7 => ?_, h.wf, fun r b l hr => by rw [hρ r (lt hr)]; exact h.mp r b l hr⟩
  · rw [hρ r (lt hr)]; exact (h.var r d hr).rho hρ' (h.wf r _ d hr rfl).2
  · rw [hρ r (lt h1)]; exact (h.row r R d q e n s f h1 h2 h3 h4 h5).rho hρ' (scow h1 h3 h4)
  · rw [hρ r (lt h1)]; exact (h.ro r R d q e n s f h1 h2 h3 h4).rho hρ' (scow h1 h3 h4)
  · rw [hρ r (lt h1), hρ r' (lt h2)]; rw [hρ r' (lt h2)] at h6; exact h.sep r R q r' R' q' h1 h2 h3 h4 h5 h6 h7
theorem snoc_get {m : List Root} {R X : Root} {r : Nat} (h : (m ++ [R])[r]? = some X) : (r < m.length ∧ m[r]? = some X) ∨ (r = m.length ∧ X = R) := by
  rw [List.getElem?_append] at h
  split at h
  · exact .inl ⟨by assumption, h⟩
  · have : r - m.length = 0 := by
      have := (List.getElem?_eq_some_iff.1 h).1
      simp at this; exact this
    rw [this] at h
    simp at h
    exact .inr ⟨by omega, h.symm⟩
theorem Rep.push {ρ : Rho} {m : List Root} {w : World} {R : Root} (h : Rep ρ m w)
    (hv : ∀ d, R = .var d → VarOK ρ w (ρ m.length []) (ρ m.length) d)
    (hr : ∀ d q e n s f, R.mine = true → R.con = some d → nav d q = some (.ow e n s f) → (q = [] ∨ e ≠ 0) → RowOK ρ w (ρ m.length q) (fun z => ρ m.length (q ++ z)) e n s f)
    (ho : ∀ d q e n s f, (R.mine = false ∨ (q ≠ [] ∧ e = 0)) → R.con = some d → nav d q = some (.ow e n s f) → RoOK ρ w (ρ m.length q) (fun z => ρ m.length (q ++ z)) n s f)
    (hs1 : ∀ q (r' : Nat) (R' : Root) q', At R q → m[r']? = some R' → At R' q' → ((R.mine = true ∧ AtO R q) ∨ (R'.mine = true ∧ AtO R' q')) → (ρ m.length q).nil = false → (ρ r' q').nil = false → (ρ m.length q).b ≠ (ρ r' q').b)
    (hs2 : ∀ q q', R.mine = true → AtO R q → At R q' → q ≠ q' → (ρ m.length q').nil = false → (ρ m.length q).b ≠ (ρ m.length q').b)
    (hn : ∀ q, R.mine = true → AtO R q → (ρ m.length q).nil = false)
    (hw : ∀ d, R.con = some d → WF d ∧ Sc (m.length + 1) d) (hmp : ∀ b l, R = .mp b l → MapOK w (ρ m.length []) b l) : Rep ρ (m ++ [R]) w where
  var := fun r d hx => by
    rcases snoc_get hx with ⟨_, h1⟩ | ⟨rfl, h1⟩
    · exact h.var r d h1
    · exact hv d h1.symm
  row := fun r X d q e n s f hx h2 h3 h4 h5 => by
    rcases snoc_get hx with ⟨_, h1⟩ | ⟨rfl, rfl⟩
    · exact h.row r X d q e n s f h1 h2 h3 h4 h5
    · exact hr d q e n s f h2 h3 h4 h5
  ro := fun r X d q e n s f hx h2 h3 h4 => by
    rcases snoc_get hx with ⟨_, h1⟩ | ⟨rfl, rfl⟩
    · exact h.ro r X d q e n s f h1 h2 h3 h4
    · exact ho d q e n s f h2 h3 h4
  sep := fun r X q r' X' q' hx hx' h3 h4 h5 h6 h7 => by
    rcases snoc_get hx with ⟨_, h1⟩ | ⟨rfl, rfl⟩
    · rcases snoc_get hx' with ⟨_, h1'⟩ | ⟨rfl, rfl⟩
      · exact h.sep r X q r' X' q' h1 h1' h3 h4 h5 h6 h7
      · exact fun e => hs1 q' r X q h5 h1 h4.at (.inr ⟨h3, h4⟩) h6 (h.mine_nil h1 h3 h4) e.symm
    · rcases snoc_get hx' with ⟨_, h1'⟩ | ⟨rfl, rfl⟩
      · exact hs1 q r' X' q' h4.at h1' h5 (.inl ⟨h3, h4⟩) (hn q h3 h4) h6
      · exact hs2 q q' h3 h4 h5 (h7 rfl) h6
  wf := fun r X d hx h2 => by
    rw [List.length_append]
    rcases snoc_get hx with ⟨_, h1⟩ | ⟨rfl, rfl⟩
    · have := h.wf r X d h1 h2
      exact ⟨this.1, this.2.mono (by simp)⟩
    · exact hw d h2
  mp := fun r b l hx => by
    rcases snoc_get hx with ⟨_, h1⟩ | ⟨rfl, h1⟩
    · exact h.mp r b l h1
    · exact hmp b l h1.symm
def ext (ρ : Rho) (n : Nat) (A : List Nat → RV) : Rho := fun r => bif Nat.beq r n then A else ρ r
theorem ext_same (ρ : Rho) (n : Nat) (A : List Nat → RV) : ext ρ n A n = A := by simp [ext]
theorem ext_ne (ρ : Rho) {n r : Nat} (A : List Nat → RV) (h : r ≠ n) : ext ρ n A r = ρ r := by
  unfold ext; rw [show Nat.beq r n = false from by cases e : Nat.beq r n with | false => rfl | true => exact absurd (Nat.eq_of_beq_eq_true e) h]; rfl
theorem at_plain {d : Dat} (hp : Pl d) {q : List Nat} (h : At (.var d) q) : q = [] := by
  rcases h with ⟨h, _⟩ | ⟨d', e, n, s, f, h1, h2⟩
  · exact h
  · cases h1; exact absurd h2 (Pl_nav hp)
theorem Rep.newVar {ρ : Rho} {m : List Root} {w : World} (h : Rep ρ m w) (d : Dat) (t : TypeId) (hp : Pl d) (hw : WF d) (hs : Sc m.length d) :
    let ρ' := ext ρ m.length (fun _ => ⟨false, w.heap.size, 0, 0, none, 0⟩)
    let w' := w.alloc (.cells (cells ρ noA d).toArray t)
    Rep ρ' (m ++ [.var d]) w' ∧ Tr ρ m w ρ' (m ++ [.var d]) w' := by
  intro ρ' w'
  have hρ : ∀ r, r < m.length → ρ' r = ρ r := fun r hr => ext_ne ρ _ (by omega)
  have hn : ρ' m.length = fun _ => ⟨false, w.heap.size, 0, 0, none, 0⟩ := ext_same ρ _ _
  have hb : ∀ k, k < w.heap.size → w'.heap[k]? = w.heap[k]? := fun k hk => heap_alloc_old w _ k hk
  have h1 : Rep ρ' m w' := (h.move (by simp [w']) hb).rho hρ
  have hlt : ∀ {r : Nat} {R : Root} {q : List Nat}, m[r]? = some R → At R q → (ρ' r q).nil = false → (ρ' r q).b < w.heap.size := by
    intro r R q hr ha hz
    have hr' : r < m.length := (List.getElem?_eq_some_iff.1 hr).1
    rw [hρ r hr'] at hz ⊢
    exact h.at_lt hr ha hz
  refine ⟨h1.push ?_ ?_ ?_ ?_ ?_ ?_ ?_ (fun b l hh => by cases hh), ?_⟩
  · intro d' e
    cases e
    refine ⟨(cells ρ noA d).toArray, t, ?_, ?_, ?_, ?_⟩
    · rw [hn]; exact heap_alloc_new w _
    · rw [hn]
    · rw [hn]
    · show cells ρ noA d = _
      rw [cells_congr (n := m.length) (ρ := ρ) (ρ' := ρ') (fun r hr => by rw [hρ r hr]) d (ρ' m.length) hs]
      exact cells_plain d _ _ hp
  · intro d' q e n s f _ h2 h3
    cases h2; exact absurd h3 (Pl_nav hp)
  · intro d' q e n s f _ h2 h3
    cases h2; exact absurd h3 (Pl_nav hp)
  · intro q r' R' q' ha hr' ha' _ _ hz
    have := hlt hr' ha' hz
    have e : q = [] := at_plain hp ha
    subst e
    rw [hn]; show w.heap.size ≠ _
    omega
  · intro q q' _ ha ha' hne _
    exact absurd ((at_plain hp ha.at).trans (at_plain hp ha').symm) hne
  · intro q _ _; rw [hn]
  · intro d' e; cases e; exact ⟨hw, hs.mono (by omega)⟩
  · refine ⟨rfl, rfl, Nat.le_refl _, rfl, by simp [w'], fun r hr => by rw [hρ r hr], by simp, fun k hk _ => hb k hk, fun r R q hr hm ha => ?_, fun r R q hr hm ha => ?_⟩
    · rcases snoc_get hr with ⟨hr', h2⟩ | ⟨rfl, rfl⟩
      · rw [hρ r hr']; exact .inr ⟨r, R, q, h2, hm, ha, rfl⟩
      · rw [hn]; exact .inl (Nat.le_refl _)
    · rcases snoc_get hr with ⟨hr', h2⟩ | ⟨rfl, rfl⟩
      · rw [hρ r hr'] at ha ⊢; exact .inr ⟨r, R, q, h2, hm, ha, rfl⟩
      · rw [hn]; exact .inl (Nat.le_refl _)
theorem nav_upd {y : Dat} (hy : Pl y) : ∀ {q : List Nat} {d x : Dat} {z : List Nat} {e : TypeId} {n s : Nat} {f : Nat → Dat}, navL d q = some x → nav (upd d q y) z = some (.ow e n s f) → nav d z = some (.ow e n s f)
  | [], d, x, z, e, n, s, f, _, h => by simp only [upd] at h; exact absurd h (Pl_nav hy)
  | i :: q, d, x, z, e, n, s, f, hx, h => by
    cases d
    case ar k t g =>
      simp only [upd] at h
      simp only [navL] at hx
      split at hx
      · cases z with
        | nil => simp [nav] at h
        | cons j z =>
          simp only [nav] at h ⊢
          split at h
          · rename_i hj
            rw [if_pos hj]
            by_cases e1 : j = i
            · subst e1; rw [fup_same] at h
              exact nav_upd hy hx h
            · rw [fup_ne _ _ e1] at h; exact h
          · cases h
      · cases hx
    case st k g =>
      simp only [upd] at h
      simp only [navL] at hx
      split at hx
      · cases z with
        | nil => simp [nav] at h
        | cons j z =>
          simp only [nav] at h ⊢
          split at h
          · rename_i hj
            rw [if_pos hj]
            by_cases e1 : j = i
            · subst e1; rw [fup_same] at h
              exact nav_upd hy hx h
            · rw [fup_ne _ _ e1] at h; exact h
          · cases h
      · cases hx
    all_goals (simp only [navL] at hx; cases hx)
theorem sc_upd {n : Nat} {y : Dat} (hy : Sc n y) : ∀ {q : List Nat} {d : Dat}, Sc n d → Sc n (upd d q y)
  | [], d, _ => by simpa only [upd] using hy
  | i :: q, d, h => by
    cases d
    case ar k t g =>
      intro j hj
      by_cases e : j = i
      · subst e; rw [fup_same]; exact sc_upd hy (h j hj)
      · rw [fup_ne _ _ e]; exact h j hj
    case st k g =>
      intro j hj
      by_cases e : j = i
      · subst e; rw [fup_same]; exact sc_upd hy (h j hj)
      · rw [fup_ne _ _ e]; exact h j hj
    all_goals simpa only [upd] using h
def Root.upd (R : Root) (q : List Nat) (y : Dat) : Root :=
  match R with
  | .var d => .var (DM.upd d q y)
  | .row e n s f => match q with
    | [] => R
    | i :: q => .row e n s (fup f i (DM.upd (f i) q y))
  | _ => R
def Root.navL (R : Root) (q : List Nat) : Option Dat :=
  match R with
  | .var d => DM.navL d q
  | .row _ n _ f => match q with
    | [] => none
    | i :: q => if i < n then DM.navL (f i) q else none
  | .ro n _ f => match q with
    | [] => none
    | i :: q => if i < n then DM.navL (f i) q else none
  | .dead => none
  | .mp _ _ => none
def Root.offs (R : Root) (q : List Nat) : Nat :=
  match R with
  | .var d => DM.offs d q
  | .row _ _ s f => match q with
    | [] => 0
    | i :: q => i * s + DM.offs (f i) q
  | .ro _ s f => match q with
    | [] => 0
    | i :: q => i * s + DM.offs (f i) q
  | .dead => 0
  | .mp _ _ => 0
theorem set_get {m : List Root} {r r' : Nat} {R X : Root} (h : (m.set r R)[r']? = some X) : (r' = r ∧ X = R ∧ r < m.length) ∨ (r' ≠ r ∧ m[r']? = some X) := by
  by_cases e : r' = r
  · subst e
    have hl : r' < m.length := by
      have := (List.getElem?_eq_some_iff.1 h).1; simpa using this
    rw [List.getElem?_set_self hl] at h
    exact .inl ⟨rfl, (Option.some.inj h).symm, hl⟩
  · rw [List.getElem?_set_ne (Ne.symm e)] at h
    exact .inr ⟨e, h⟩
theorem Rep.replace {ρ : Rho} {m : List Root} {w w' : World} (h : Rep ρ m w) {r : Nat} {R R' : Root} (hr : m[r]? = some R) (hm : R.mine = true) (hm' : R'.mine = true)
    (hz : w'.heap.size = w.heap.size) (hk : ∀ k, k ≠ (ρ r []).b → w'.heap[k]? = w.heap[k]?)
    (hv : ∀ d, R' = .var d → VarOK ρ w' (ρ r []) (ρ r) d)
    (hrow : ∀ e n s f, R' = .row e n s f → RowOK ρ w' (ρ r []) (ρ r) e n s f)
    (hin : ∀ d d' q e n s f, R.con = some d → R'.con = some d' → q ≠ [] → nav d' q = some (.ow e n s f) → nav d q = some (.ow e n s f))
    (hvar : ∀ d' e n s f, R' = .var d' → nav d' [] ≠ some (.ow e n s f))
    (hw : ∀ d, R'.con = some d → WF d ∧ Sc m.length d) (hmp : ∀ b l, R' = .mp b l → MapOK w' (ρ r []) b l) : Rep ρ (m.set r R') w' := by
  have hcon : ∃ d, R.con = some d := by cases R <;> first | exact ⟨_, rfl⟩ | cases hm
  obtain ⟨dR, hdR⟩ := hcon
  have atR : AtO R [] := .inl ⟨rfl, by rw [hdR]; rfl⟩
  have at' : ∀ q, At R' q → At R q := by
    intro q ha
    rcases ha with ⟨rfl, _⟩ | ⟨d', e, n, s, f, h1, h2⟩
    · exact atR.at
    · by_cases e : q = []
      · subst e; exact atR.at
      · exact .inr ⟨dR, _, _, _, _, hdR, hin dR d' q _ _ _ _ hdR h1 e h2⟩
  have atO' : ∀ q, AtO R' q → AtO R q := by
    intro q ha
    rcases ha with ⟨rfl, _⟩ | ⟨d', e, n, s, f, h1, h2, h3⟩
    · exact atR
    · by_cases e : q = []
      · subst e; exact atR
      · exact .inr ⟨dR, _, _, _, _, hdR, hin dR d' q _ _ _ _ hdR h1 e h2, h3⟩
  have hkeep : ∀ {r' : Nat} {X : Root} {q : List Nat}, m[r']? = some X → At X q → (ρ r' q).nil = false → (r' = r → q ≠ []) → w'.heap[(ρ r' q).b]? = w.heap[(ρ r' q).b]? := by
    intro r' X q hx ha hn hne
    exact hk _ (fun e => h.sep r R [] r' X q hr hx hm atR ha hn (fun e2 e3 => hne e2.symm e3.symm) e.symm)
  refine ⟨fun r' d hx => ?_, fun r' X d q e n s f hx h2 h3 h4 h8 => ?_, fun r' X d q e n s f hx h2 h3 h4 => ?_, fun r1 X1 q1 r2 X2 q2 hx1 hx2 h3 h4 h5 h6 h7 => ?_, fun r' X d hx h2 => ?_, fun r' b l hx => ?_⟩
  · rcases set_get hx with ⟨rfl, h1, _⟩ | ⟨hne, h1⟩
    · exact hv d h1.symm
    · exact (h.var r' d h1).keep (hkeep h1 (.inl ⟨rfl, rfl⟩) (h.mine_nil h1 rfl (.inl ⟨rfl, rfl⟩)) (fun e => absurd e hne))
  · rcases set_get hx with ⟨rfl, rfl, _⟩ | ⟨hne, h1⟩
    · by_cases e1 : q = []
      · subst e1
        cases X with
        | var d' => cases h3; exact absurd h4 (hvar _ _ _ _ _ rfl)
        | row e' n' s' f' =>
          cases h3
          simp only [nav, Option.some.injEq, Dat.ow.injEq] at h4
          obtain ⟨rfl, rfl, rfl, rfl⟩ := h4
          exact hrow _ _ _ _ rfl
        | dead => cases hm'
        | ro => cases hm'
        | mp => cases h3; simp [nav] at h4
      · have h5 := hin dR d q e n s f hdR h3 e1 h4
        have h6 : e ≠ 0 := h8.resolve_left e1
        exact (h.row r' R dR q e n s f hr hm hdR h5 h8).keep (hkeep hr (.inr ⟨dR, e, n, s, f, hdR, h5⟩) (h.mine_nil hr hm (.inr ⟨dR, e, n, s, f, hdR, h5, h6⟩)) (fun _ => e1))
    · have g : (ρ r' q).nil = false := by
        obtain ⟨_, _, _, h3', _⟩ := h.row r' X d q e n s f h1 h2 h3 h4 h8
        exact h3'
      exact (h.row r' X d q e n s f h1 h2 h3 h4 h8).keep (hkeep h1 (.inr ⟨d, e, n, s, f, h3, h4⟩) g (fun e => absurd e hne))
  · rcases set_get hx with ⟨rfl, rfl, _⟩ | ⟨hne, h1⟩
    · rw [hm'] at h2
      have e1 : q ≠ [] := (h2.resolve_left (fun h => by cases h)).1
      have h5 := hin dR d q e n s f hdR h3 e1 h4
      exact (h.ro r' R dR q e n s f hr (.inr (h2.resolve_left (fun h => by cases h))) hdR h5).keep (by omega) (fun hn => hkeep hr (.inr ⟨dR, e, n, s, f, hdR, h5⟩) hn (fun _ => e1))
    · exact (h.ro r' X d q e n s f h1 h2 h3 h4).keep (by omega) (fun hn => hkeep h1 (.inr ⟨d, e, n, s, f, h3, h4⟩) hn (fun e => absurd e hne))
  · rcases set_get hx1 with ⟨rfl, rfl, _⟩ | ⟨hne1, g1⟩
    · rcases set_get hx2 with ⟨rfl, rfl, _⟩ | ⟨hne2, g2⟩
      · exact h.sep _ R q1 _ R q2 hr hr hm (atO' _ h4) (at' _ h5) h6 h7
      · exact h.sep _ R q1 _ X2 q2 hr g2 hm (atO' _ h4) h5 h6 h7
    · rcases set_get hx2 with ⟨rfl, rfl, _⟩ | ⟨hne2, g2⟩
      · exact h.sep _ X1 q1 _ R q2 g1 hr h3 h4 (at' _ h5) h6 h7
      · exact h.sep _ X1 q1 _ X2 q2 g1 g2 h3 h4 h5 h6 h7
  · rw [List.length_set]
    rcases set_get hx with ⟨rfl, rfl, _⟩ | ⟨hne, h1⟩
    · exact hw d h2
    · exact h.wf r' X d h1 h2
  · rcases set_get hx with ⟨rfl, h1, _⟩ | ⟨hne, h1⟩
    · exact hmp b l h1.symm
    · exact (h.mp r' b l h1).keep (hkeep h1 (.inl ⟨rfl, rfl⟩) (h.mine_nil h1 rfl (.inl ⟨rfl, rfl⟩)) (fun e => absurd e hne))
end Go.Proofs.Ythjnmlpibafbnaa.DM
