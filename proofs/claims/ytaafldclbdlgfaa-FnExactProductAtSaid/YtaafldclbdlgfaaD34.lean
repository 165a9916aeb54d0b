import Derived.Test.YtaafldclbdlgfaaD18
import Derived.Laws.Slices
import Derived.Laws.AppendOwn
import Derived.Laws.CopyRow
import Derived.Laws.Cover3
import Derived.Laws.Strings
import Derived.Laws.Concat
import Derived.Laws.IdiomStrings
import Derived.Test.YtaafldclbdlgfaaD30
/- Drawn regions whose last operations wait for some of the others only: each that may come up, stores among them; operations that look at no memory are taken first. -/
namespace Go.Proofs.Ytaafldclbdlgfaa.DM
open Go.RowKit
set_option linter.unusedVariables false
set_option linter.unusedSimpArgs false

section
variable {P : Program} {T : TyEnv} {N K : Nat} {Q : Exit → St → Prop} {ops : Array Oper} {n : Nat}

/-- An operation that may turn what stands. -/
def TK (P : Program) (o : Oper) (fr : Nat → Dat) (m : List Root) (v : Dat) (m' : List Root) : Prop :=
  ∀ (N : Nat) (ρ : Rho) (a : Act) (w : World), Frm m.length ρ N fr a.tmps → Rep ρ m w → ∀ (Kc : Act → World → Prop) (Q' : Exit → Act → World → Prop),
    (∀ ρ' u w', Holds m'.length ρ' v u → Rep ρ' m' w' → Tr ρ m w ρ' m' w' → Kc (a.put o.dst u) w') → o.wp P a w Kc Q'

theorem TK.of (hT : TOK P T) {wm : Bool} {o : Oper} {fr : Nat → Dat} {m m' : List Root} {v : Dat} {ps : List Prop} (h : evalOp T wm o.op fr m = some (ps, v, m')) (hp : AllP ps) : TK P o fr m v m' := by
  intro N ρ a w hf hr Kc Q' hK
  obtain ⟨ρ1, w1, nx1, g1, g2, g3, g4⟩ := evalOp_ok hT h hp N ρ a w hf hr
  unfold Oper.wp
  rw [g1]
  rcases g2 with ⟨u, rfl, hu⟩ | ⟨rfl, rfl⟩
  · exact hK ρ1 u w1 hu g3 g4
  · exact hK ρ1 undef w1 (.inl rfl) g3 g4

/-- All is through. -/
theorem WA.end {fuel : Nat} {listed : Array Bool} {s : St} (hf : fuel = 0) (hr : Region.ready .any ops listed = []) (k : NoPan Q .normal s) : WA P N K ops Q n fuel listed s := by
  subst hf
  intro hns hclo ρ a w hrel
  refine ⟨hr, ?_⟩
  obtain ⟨g1, g2⟩ := k
  exact ⟨g1, ρ, s, hrel, TrK.refl _ _ _ _, g2⟩
end
end Go.Proofs.Ytaafldclbdlgfaa.DM

/- Functions whose result is told by a property; slices inside a struct at an index that is not a numeral: loads and stores by equations. -/
namespace Go.Proofs.Ytaafldclbdlgfaa.DM
open Go.RowKit
set_option linter.unusedVariables false
set_option linter.unusedSimpArgs false

theorem AllP.append {p : Prop} : ∀ {l : List Prop}, AllP l → p → AllP (l ++ [p])
  | [], _, h => h
  | [a], ha, h => ⟨ha, h⟩
  | a :: b :: l, ⟨h1, h2⟩, h => ⟨h1, AllP.append (l := b :: l) h2 h⟩

section
variable {P : Program} {T : TyEnv} {N K : Nat} {Q : Exit → St → Prop} {fr : Nat → Dat} {m m' m0 : List Root} {f : FuncId} {xs : List Dat}

end
end Go.Proofs.Ytaafldclbdlgfaa.DM

/- Append of plain elements: the source stays one's own. -/
namespace Go.Proofs.Ytaafldclbdlgfaa.DM
open Go.RowKit
set_option linter.unusedVariables false
set_option linter.unusedSimpArgs false

section
variable {P : Program} {T : TyEnv} {fr : Nat → Dat} {m m' : List Root} {v : Dat} {ps : List Prop} {wm : Bool}

end
end Go.Proofs.Ytaafldclbdlgfaa.DM

/- Drawn regions: calls whose result is told by a property. -/
namespace Go.Proofs.Ytaafldclbdlgfaa.DM
open Go.RowKit
set_option linter.unusedVariables false
set_option linter.unusedSimpArgs false

section
variable {P : Program} {T : TyEnv} {N K : Nat} {Q : Exit → St → Prop} {ops : Array Oper} {n : Nat}

/-- An operation that makes new roots and leaves all that was; G tells of its result and memory. -/
def MKE (P : Program) (o : Oper) (fr : Nat → Dat) (m : List Root) (G : Dat → List Root → Prop) : Prop :=
  ∀ (N : Nat) (ρ : Rho) (a : Act) (w : World), Frm m.length ρ N fr a.tmps → Rep ρ m w → ∀ (Kc : Act → World → Prop) (Q' : Exit → Act → World → Prop),
    (∀ ρ' u w' v m', G v m' → Holds m'.length ρ' v u → Rep ρ' m' w' → Tr ρ m w ρ' m' w' → BelowD w.heap.size w w' → Kc (a.put o.dst u) w') → o.wp P a w Kc Q'

theorem MKE.of {o : Oper} {fr : Nat → Dat} {m m' : List Root} {v : Dat} (h : MK P o fr m v m') : MKE P o fr m fun x y => x = v ∧ y = m' := by
  intro N ρ a w hf hr Kc Q' hK
  exact h N ρ a w hf hr Kc Q' fun ρ' u w' h1 h2 h3 h4 => hK ρ' u w' v m' ⟨rfl, rfl⟩ h1 h2 h3 h4

theorem MKE.call {dst : Tmp} {args : List Operand} {tys : Array TypeId} {t : TypeId} {pos : String} {after : Array Edge} {gg : Option (Nat × Bool)} {f : FuncId} {xs : List Dat} {fr : Nat → Dat} {m m0 : List Root} {Qf G : Dat → List Root → Prop} (ts : List Nat) (h : FnS P f xs m0 Qf)
    (hl : LeAll 0 m ts m0) (hn : noMine m0 = true) (ho : sameKind m ts m0 = true ∨ ∀ r m1, Qf r m1 → OwnNew m0.length m1) (hdi : distinct ts = true) (hx : ArgsR (tauOf ts) fr xs args) (hsc : ∀ x ∈ xs, Sc m0.length x)
    (hc : ∀ r m1, Qf r m1 → AllC0 m1 ∧ ∃ r', renD (invT ts m.length) r r' ∧ Sc (putBack m ts m0 m1).length r' ∧ G r' (putBack m ts m0 m1)) :
    MKE P { dst := some dst, op := .call { callee := .value (.func f), args := args.toArray, argTypes := tys }, type := t, pos := pos, after := after, guard := gg } fr m G := by
  intro N ρ a w hfr hrep Kc Q' hK
  obtain ⟨h1, h2⟩ := hx.eval hfr
  have h0 : a.eval (.func f) = .func (.func f) #[] #[] := rfl
  unfold Oper.wp
  rw [call_run rfl h0 (FnS.enter h)]
  simp only [Oper.upon]
  rw [show args.toArray.map a.eval = (xs.map (enc fun r => ρ (tauOf ts r))).toArray by rw [← h1]; simp]
  refine (FnS.calls h _ w (hrep.taken (Taken.view ts hl (by rw [hdi]; simp))) (fun x hx => ⟨hsc x hx, h2 x hx⟩)).mono ?_
  rintro e w' ⟨r, ρ1, m1', rfl, h3, h4, h5, h6, h7⟩
  obtain ⟨c1, r', c2, c3, c4⟩ := hc r m1' h7
  obtain ⟨g1, g2, g3⟩ := hrep.call ts hl (ho.imp id fun h => ⟨hn, h r m1' h7⟩) hdi h5 h6 c1.get
  refine hK _ _ w' r' _ c4 (.inr ⟨?_, c3, renD_ok' c2 h4⟩) g1 g2 (h6.below fun r R h => noMine_get hn h)
  rw [renD_enc c2]
  exact (enc_congr (n := m1'.length) (fun j hj => g3 j hj) r h3).symm

/-- A call that may turn roots. -/
theorem TK.callN {dst : Tmp} {args : List Operand} {tys : Array TypeId} {t : TypeId} {pos : String} {after : Array Edge} {gg : Option (Nat × Bool)} {f : FuncId} {xs : List Dat} {fr : Nat → Dat} {m m0 m1 : List Root} (ts : List Nat) {r0 : Dat} (r' : Dat) (h : FnS P f xs m0 fun r m' => r = r0 ∧ m' = m1)
    (hl : LeAll 0 m ts m0) (hk : sameKind m ts m0 = true) (hdi : distinct ts = true) (hx : ArgsR (tauOf ts) fr xs args) (hsc : ∀ x ∈ xs, Sc m0.length x)
    (hc : AllC0 m1) (hr : renD (invT ts m.length) r0 r') (hs : Sc (putBack m ts m0 m1).length r') {mm : List Root} (hm : putBack m ts m0 m1 = mm) :
    TK P { dst := some dst, op := .call { callee := .value (.func f), args := args.toArray, argTypes := tys }, type := t, pos := pos, after := after, guard := gg } fr m r' mm := by
  subst hm
  intro N ρ a w hfr hrep Kc Q' hK
  obtain ⟨h1, h2⟩ := hx.eval hfr
  have h0 : a.eval (.func f) = .func (.func f) #[] #[] := rfl
  unfold Oper.wp
  rw [call_run rfl h0 (FnS.enter h)]
  simp only [Oper.upon]
  rw [show args.toArray.map a.eval = (xs.map (enc fun r => ρ (tauOf ts r))).toArray by rw [← h1]; simp]
  refine (FnS.calls h _ w (hrep.taken (Taken.view ts hl (by rw [hdi]; simp))) (fun x hx => ⟨hsc x hx, h2 x hx⟩)).mono ?_
  rintro e w' ⟨r, ρ1, m1', rfl, h3, h4, h5, h6, rfl, rfl⟩
  obtain ⟨g1, g2, g3⟩ := hrep.call ts hl (.inl hk) hdi h5 h6 hc.get
  refine hK _ _ w' (.inr ⟨?_, hs, renD_ok' hr h4⟩) g1 g2
  rw [renD_enc hr]
  exact (enc_congr (n := m1'.length) (fun j hj => g3 j hj) r h3).symm

end

section
variable {P : Program} {N K : Nat} {Q : Exit → St → Prop}
end

end Go.Proofs.Ytaafldclbdlgfaa.DM

/- Cells that hold pointers and slices: roots named anew; closures: made and called. -/
namespace Go.Proofs.Ytaafldclbdlgfaa.DM
open Go.RowKit
set_option linter.unusedVariables false
set_option linter.unusedSimpArgs false

/-- A cell's reference, its root named anew. -/
def RefR (τ : Nat → Nat) (n : Nat) : Dat → Dat → Prop
  | .p r q o, d => d = .p (τ r) q o ∧ r < n
  | .sl r a b c, d => d = .sl (τ r) a b c ∧ r < n
  | _, _ => False

/-- A slot's thing, its roots named anew; what a closure holds as well. -/
def renC (τ : Nat → Nat) : Dat → Dat → Prop
  | .p r q o, d => d = .p (τ r) q o
  | .sl r a b c, d => d = .sl (τ r) a b c
  | .tup n f, d => ∃ f', d = .tup n f' ∧ ∀ i, i < n → renC τ (f i) (f' i)
  | .fn g n f, d => ∃ f', d = .fn g n f' ∧ ∀ i, i < n → RefR τ (τ 0 + 1000000) (f i) (f' i)
  | d', d => d = d' ∧ Sc 0 d

theorem RefR.leaf {τ : Nat → Nat} {n : Nat} {ρ : Rho} {A B : List Nat → RV} : ∀ {v v0 : Dat}, RefR τ n v v0 → leaf ρ A v0 = leaf (fun r => ρ (τ r)) B v
  | .p r q o, _, ⟨h, _⟩ => by rw [h]; rfl
  | .sl r a b c, _, ⟨h, _⟩ => by rw [h]; rfl
theorem RefR.cells {τ : Nat → Nat} {n : Nat} {ρ : Rho} {A B : List Nat → RV} : ∀ {v v0 : Dat}, RefR τ n v v0 → cells ρ A v0 = cells (fun r => ρ (τ r)) B v
  | .p r q o, _, ⟨h, _⟩ => by rw [h]; rfl
  | .sl r a b c, _, ⟨h, _⟩ => by rw [h]; rfl
theorem RefR.sc {τ : Nat → Nat} {n : Nat} : ∀ {v v0 : Dat}, RefR τ n v v0 → WF v ∧ Sc n v
  | .p r q o, _, ⟨_, h⟩ => ⟨trivial, h⟩
  | .sl r a b c, _, ⟨_, h⟩ => ⟨trivial, h⟩
theorem RefR.nav {τ : Nat → Nat} {n : Nat} {q : List Nat} {e k s : Nat} {f : Nat → Dat} : ∀ {v v0 : Dat}, RefR τ n v v0 → nav v q ≠ some (.ow e k s f)
  | .p r q' o, _, _ => by cases q <;> simp [DM.nav]
  | .sl r a b c, _, _ => by cases q <;> simp [DM.nav]

/-- Memory m' is made of roots of m; cells that hold a reference are taken with their root named anew. -/
structure TakenC (τ : Nat → Nat) (k : Nat) (m m' : List Root) : Prop where
  get : ∀ (j : Nat) (R : Root), m'[j]? = some R → R = .dead ∨ (∃ R0, m[τ j]? = some R0 ∧ R0.Le R ∧ ∀ d, R.con = some d → Sc k d) ∨ (∃ v v0, R = .var v ∧ m[τ j]? = some (.var v0) ∧ RefR τ m'.length v v0)
  inj : ∀ (i j : Nat) (R R' : Root), m'[i]? = some R → m'[j]? = some R' → R.mine = true → R' ≠ .dead → τ i = τ j → i = j
  fix : ∀ r, r < k → τ r = r
  len : k ≤ m'.length

/-- Where a place of m' was. -/
theorem TakenC.live {τ : Nat → Nat} {k : Nat} {m m' : List Root} (ht : TakenC τ k m m') {j : Nat} {X : Root} {z : List Nat} (hx : m'[j]? = some X) (hz : At X z) : (∃ R0, m[τ j]? = some R0 ∧ (X.mine = true → R0.mine = true) ∧ At R0 z ∧ (AtO X z → AtO R0 z)) ∧ X ≠ .dead := by
  refine ⟨?_, ?_⟩
  · rcases ht.get j X hx with rfl | ⟨R0, h8, h9, _⟩ | ⟨v, v0, rfl, h8, h9⟩
    · rcases hz with ⟨_, hz⟩ | ⟨_, _, _, _, _, hz, _⟩ <;> cases hz
    · exact ⟨R0, h8, h9.mine, h9.at hz, h9.atO⟩
    · have hq : z = [] := by
        rcases hz with ⟨h, _⟩ | ⟨d, e, n, s, f, h1, h2⟩
        · exact h
        · cases h1; exact absurd h2 h9.nav
      subst hq
      exact ⟨_, h8, fun _ => rfl, .inl ⟨rfl, rfl⟩, fun _ => .inl ⟨rfl, rfl⟩⟩
  · rintro rfl
    rcases hz with ⟨_, hz⟩ | ⟨_, _, _, _, _, hz, _⟩ <;> cases hz

def SlotsC (τ : Nat → Nat) (n : Nat) (fr : Nat → Dat) : List (Nat × Dat) → Prop
  | [] => True
  | (x, v) :: l => (renC τ v (fr x) ∧ Sc n v) ∧ SlotsC τ n fr l
theorem SlotsC.mem {τ : Nat → Nat} {n : Nat} {fr : Nat → Dat} : ∀ {l : List (Nat × Dat)}, SlotsC τ n fr l → ∀ {x : Nat} {v : Dat}, (x, v) ∈ l → renC τ v (fr x) ∧ Sc n v
  | (y, u) :: l, h, x, v, hm => by
    simp only [List.mem_cons, Prod.mk.injEq] at hm
    rcases hm with ⟨rfl, rfl⟩ | hm
    · exact h.1
    · exact h.2.mem hm
theorem SlotsC.cons {τ : Nat → Nat} {n : Nat} {fr : Nat → Dat} {x : Nat} {v : Dat} {l : List (Nat × Dat)} (h1 : renC τ v (fr x)) (h2 : Sc n v) (h3 : SlotsC τ n fr l) : SlotsC τ n fr ((x, v) :: l) := ⟨⟨h1, h2⟩, h3⟩

section
variable {P : Program} {T : TyEnv} {N K : Nat} {Q : Exit → St → Prop} {fr : Nat → Dat} {m m' m0 : List Root} {f : FuncId} {xs : List Dat}

/-- Root by root. -/
def AllC (τ : Nat → Nat) (n k : Nat) (m : List Root) : List Nat → List Root → Prop
  | t :: ts, R :: l => (∃ R0, m[t]? = some R0 ∧ ((R0.Le R ∧ ∀ d, R.con = some d → Sc k d) ∨ ∃ v v0, R = .var v ∧ R0 = .var v0 ∧ RefR τ n v v0)) ∧ AllC τ n k m ts l
  | [], [] => True
  | _, _ => False
theorem AllC.cons {τ : Nat → Nat} {n k : Nat} {m : List Root} {t : Nat} {ts : List Nat} {R : Root} {l : List Root} (h : ∃ R0, m[t]? = some R0 ∧ ((R0.Le R ∧ ∀ d, R.con = some d → Sc k d) ∨ ∃ v v0, R = .var v ∧ R0 = .var v0 ∧ RefR τ n v v0)) (h2 : AllC τ n k m ts l) : AllC τ n k m (t :: ts) (R :: l) := ⟨h, h2⟩
theorem AllC.le {τ : Nat → Nat} {n k : Nat} {m : List Root} {t : Nat} {R0 R : Root} (h : m[t]? = some R0) (h1 : R0.Le R) (h2 : ∀ d, R.con = some d → Sc k d) : ∃ R0, m[t]? = some R0 ∧ ((R0.Le R ∧ ∀ d, R.con = some d → Sc k d) ∨ ∃ v v0, R = .var v ∧ R0 = .var v0 ∧ RefR τ n v v0) := ⟨R0, h, .inl ⟨h1, h2⟩⟩
theorem AllC.get {τ : Nat → Nat} {n k : Nat} {m : List Root} : ∀ {ts : List Nat} {l : List Root}, AllC τ n k m ts l → ts.length = l.length ∧ ∀ {j : Nat} {R : Root}, l[j]? = some R → ∃ R0, m[pickT ts j]? = some R0 ∧ ((R0.Le R ∧ ∀ d, R.con = some d → Sc k d) ∨ ∃ v v0, R = .var v ∧ R0 = .var v0 ∧ RefR τ n v v0)
  | [], [], _ => ⟨rfl, fun h => by simp at h⟩
  | [], _ :: _, h => h.elim
  | _ :: _, [], h => h.elim
  | t :: ts, R :: l, ⟨h1, h2⟩ => by
    obtain ⟨g1, g2⟩ := h2.get
    refine ⟨by simp [g1], fun {j X} hj => ?_⟩
    cases j with
    | zero => simp only [List.getElem?_cons_zero, Option.some.injEq] at hj; subst hj; exact h1
    | succ j => exact g2 (by simpa using hj)

theorem TakenC.of (ts : List Nat) {k : Nat} (h : AllC (tauOf ts) m'.length k m ts m') (hd : distinct ts = true) (hs : startsWith k 0 ts = true) : TakenC (tauOf ts) k m m' := by
  obtain ⟨g1, g2⟩ := h.get
  obtain ⟨f1, f2⟩ := startsWith_get hs
  have hlt : ∀ {j : Nat} {R : Root}, m'[j]? = some R → j < ts.length := fun h => by rw [g1]; exact (List.getElem?_eq_some_iff.1 h).1
  refine ⟨fun j R hj => .inr ?_, fun i j R R' hi hj _ _ e => ?_, fun r hr => ?_, by omega⟩
  · obtain ⟨R0, h1, h2⟩ := g2 hj
    rw [tauOf_lt (hlt hj)]
    rcases h2 with h2 | ⟨v, v0, e1, e2, h2⟩
    · exact .inl ⟨R0, h1, h2⟩
    · exact .inr ⟨v, v0, e1, by rw [h1, e2], h2⟩
  · rw [tauOf_lt (hlt hi), tauOf_lt (hlt hj)] at e
    exact distinct_inj hd (hlt hi) (hlt hj) e
  · rw [tauOf_lt (by omega)]
    have := f2 (j := r) (by omega)
    omega

/-! ### Ends -/
/-! ### Closures -/
end
end Go.Proofs.Ytaafldclbdlgfaa.DM

/- Evaluation that writes out the first root alone: the others may be a list of any length. Further: calls of a function value in drawn regions, clear. -/
namespace Go.Proofs.Ytaafldclbdlgfaa.DM
open Go.RowKit
set_option linter.unusedVariables false
set_option linter.unusedSimpArgs false

section
variable {P : Program} {N K : Nat} {Q : Exit → St → Prop}

/-- An operation left out, also where its guard was left out. -/
theorem WPL.skipU {ops : Array Oper} {o : Oper} {rest : List Oper} {fr : Nat → Dat} {m : List Root} (hg : gdF ops o fr = true) (hd : dstOK N o.dst = true)
    (h : WPL P N K ops Q rest ⟨putO fr o.dst unD, m⟩) : WPL P N K ops Q (o :: rest) ⟨fr, m⟩ := by
  intro ρ a w ⟨hf, hdf, hr, hK⟩
  refine wpList_step fun Kc hKc => ?_
  rw [if_neg (by rw [gdF_wanted hg hf]; simp)]
  exact hKc _ _ (h ρ _ w ⟨hf.putO hd (.inr ⟨rfl, fun i hi => absurd hi (Nat.not_lt_zero _), fun i hi => absurd hi (Nat.not_lt_zero _)⟩), by rw [put_defers]; exact hdf, hr, hK⟩)

end
end Go.Proofs.Ytaafldclbdlgfaa.DM

/- xs[l:] where l is the number of elements: no element. -/
namespace Go.Proofs.Ytaafldclbdlgfaa.DM
open Go.RowKit
set_option linter.unusedVariables false
set_option linter.unusedSimpArgs false

section
variable {P : Program} {T : TyEnv} {fr : Nat → Dat} {m : List Root}

end
end Go.Proofs.Ytaafldclbdlgfaa.DM
