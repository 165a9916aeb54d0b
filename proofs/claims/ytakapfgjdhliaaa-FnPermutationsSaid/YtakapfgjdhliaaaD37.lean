import Derived.Test.YtakapfgjdhliaaaD34
/- Drawn regions: calls that turn roots and whose result is told by a property. -/
namespace Go.Proofs.Ytakapfgjdhliaaa.DM
open Go.RowKit
set_option linter.unusedVariables false
set_option linter.unusedSimpArgs false

section
variable {P : Program} {T : TyEnv} {N K : Nat} {Q : Exit → St → Prop} {ops : Array Oper} {n : Nat}

/-- An operation that may turn roots; G tells of its result and memory. -/
def TKE (P : Program) (o : Oper) (fr : Nat → Dat) (m : List Root) (G : Dat → List Root → Prop) : Prop :=
  ∀ (N : Nat) (ρ : Rho) (a : Act) (w : World), Frm m.length ρ N fr a.tmps → Rep ρ m w → ∀ (Kc : Act → World → Prop) (Q' : Exit → Act → World → Prop),
    (∀ ρ' u w' v m', G v m' → Holds m'.length ρ' v u → Rep ρ' m' w' → Tr ρ m w ρ' m' w' → Kc (a.put o.dst u) w') → o.wp P a w Kc Q'

theorem TKE.of {o : Oper} {fr : Nat → Dat} {m m' : List Root} {v : Dat} (h : TK P o fr m v m') : TKE P o fr m fun x y => x = v ∧ y = m' := by
  intro N ρ a w hf hr Kc Q' hK
  exact h N ρ a w hf hr Kc Q' fun ρ' u w' h1 h2 h3 => hK ρ' u w' v m' ⟨rfl, rfl⟩ h1 h2 h3

theorem TKE.call {dst : Tmp} {args : List Operand} {tys : Array TypeId} {t : TypeId} {pos : String} {after : Array Edge} {gg : Option (Nat × Bool)} {f : FuncId} {xs : List Dat} {fr : Nat → Dat} {m m0 : List Root} {Qf G : Dat → List Root → Prop} (ts : List Nat) (h : FnS P f xs m0 Qf)
    (hl : LeAll 0 m ts m0) (hk : sameKind m ts m0 = true) (hdi : distinct ts = true) (hx : ArgsR (tauOf ts) fr xs args) (hsc : ∀ x ∈ xs, Sc m0.length x)
    (hc : ∀ r m1, Qf r m1 → AllC0 m1 ∧ ∃ r', renD (invT ts m.length) r r' ∧ Sc (putBack m ts m0 m1).length r' ∧ G r' (putBack m ts m0 m1)) :
    TKE P { dst := some dst, op := .call { callee := .value (.func f), args := args.toArray, argTypes := tys }, type := t, pos := pos, after := after, guard := gg } fr m G := by
  intro N ρ a w hfr hrep Kc Q' hK
  obtain ⟨h1, h2⟩ := hx.eval hfr
  have h0 : a.eval (.func f) = .func (.func f) #[] #[] := rfl
  unfold Oper.wp
  rw [call_run rfl h0 (FnS.enter h)]
  simp only [Oper.upon]
  rw [show args.toArray.map a.eval = (xs.map (enc fun r => ρ (tauOf ts r))).toArray by rw [← h1]; simp]
  refine (FnS.calls h _ w (hrep.taken (Taken.view ts hl (by rw [hdi]; simp))) (fun x hx => ⟨hsc x hx, h2 x hx⟩)).mono ?_
  rintro e w' ⟨r, ρ1, m1', rfl, h3, h4, h5, h6, h7⟩
  obtain ⟨c1, r', c2, c3, c4⟩ := hc r m1' h7
  obtain ⟨g1, g2, g3⟩ := hrep.call ts hl (.inl hk) hdi h5 h6 c1.get
  refine hK _ _ w' r' _ c4 (.inr ⟨?_, c3, renD_ok' c2 h4⟩) g1 g2
  rw [renD_enc c2]
  exact (enc_congr (n := m1'.length) (fun j hj => g3 j hj) r h3).symm

/-- One of those that may come up now; one of the tail may turn what stands; G tells of its result. -/
def WAE2 (P : Program) (N K : Nat) (ops : Array Oper) (Q : Exit → St → Prop) (n fuel : Nat) (listed : Array Bool) (fr : Nat → Dat) (m : List Root) (i : Nat) : Prop :=
  ∃ o G, ops[i]? = some o ∧ gd ops o fr = some true ∧ dstOK N o.dst = true ∧ (MKE P o fr m G ∨ (n ≤ i ∧ TKE P o fr m G)) ∧ ∀ v m', G v m' → WA P N K ops Q n fuel (listed.setIfInBounds i true) ⟨putO fr o.dst v, m'⟩

theorem WA.allTE {fuel : Nat} {listed : Array Bool} {fr : Nat → Dat} {m : List Root} (rs : List Nat) (hr : Region.ready .any ops listed = rs) (hne : rs ≠ []) (h : ∀ i ∈ rs, WAE2 P N K ops Q n fuel listed fr m i) : WA P N K ops Q n (fuel + 1) listed ⟨fr, m⟩ := by
  intro hns hclo ρ a w ⟨hfr, hdf, hrep, hK⟩
  refine ⟨fun h0 => absurd (hr ▸ h0) hne, fun i hi => ?_⟩
  obtain ⟨o, G, ho, hg, hd, hmk, k⟩ := h i (hr ▸ hi)
  unfold wpOp
  simp only [ho]
  rw [if_pos (gd_wanted hg hfr)]
  have go : ∀ ρ' u w' v m', G v m' → Holds m'.length ρ' v u → Rep ρ' m' w' → Tr ρ m w ρ' m' w' → wpAnyS P ops (PostA N K ρ ⟨fr, m⟩ w Q) n fuel (listed.setIfInBounds i true) (a.put o.dst u) w' := fun ρ' u w' v m' hG hu hr' htr => by
    have hreg' := k v m' hG hns (hclo.ready hi) ρ' (a.put o.dst u) w' ⟨(hfr.tr htr).putO hd hu, by rw [put_defers]; exact hdf, hr', Nat.le_trans hK htr.len⟩
    exact wpAnyS_mono (PostA.tr (s := ⟨fr, m⟩) (s1 := ⟨putO fr o.dst v, m'⟩) (htr.toK hK)) _ _ _ _ hreg'
  rcases hmk with hmk | ⟨hn, hmk⟩
  · exact .inl (hmk N ρ a w hfr hrep _ _ fun ρ' u w' v m' hG hu hr' htr hb => ⟨fun _ => hb, go ρ' u w' v m' hG hu hr' htr⟩)
  · exact .inl (hmk N ρ a w hfr hrep _ _ fun ρ' u w' v m' hG hu hr' htr => ⟨fun h => absurd h (Nat.not_lt.2 hn), go ρ' u w' v m' hG hu hr' htr⟩)
end
end Go.Proofs.Ytakapfgjdhliaaa.DM
