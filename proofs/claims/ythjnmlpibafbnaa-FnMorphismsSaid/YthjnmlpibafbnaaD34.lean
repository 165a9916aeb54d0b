import Derived.Test.YthjnmlpibafbnaaD30
import Derived.Laws.Strings
import Derived.Laws.Concat
import Derived.Laws.IdiomStrings
import Derived.Laws.Cover3
namespace Go.Proofs.Ythjnmlpibafbnaa.DM
open Go.RowKit
set_option linter.unusedVariables false
set_option linter.unusedSimpArgs false
section
variable {P : Program} {T : TyEnv} {N K : Nat} {Q : Exit → St → Prop} {ops : Array Oper} {n : Nat}
def TK (P : Program) (o : Oper) (fr : Nat → Dat) (m : List Root) (v : Dat) (m' : List Root) : Prop :=
  ∀ (N : Nat) (ρ : Rho) (a : Act) (w : World), Frm m.length ρ N fr a.tmps → Rep ρ m w → ∀ (Kc : Act → World → Prop) (Q' : Exit → Act → World → Prop),
    (∀ ρ' u w', Holds m'.length ρ' v u → Rep ρ' m' w' → Tr ρ m w ρ' m' w' → Kc (a.put o.dst u) w') → o.wp P a w Kc Q'
theorem TK.of (hT : TOK P T) {wm : Bool} {o : Oper} {fr : Nat → Dat} {m m' : List Root} {v : Dat} {ps : List Prop} (h : evalOp T wm o.op fr m = some (ps, v, m')) (hp : AllP ps) : TK P o fr m v m' := by
  intro N ρ a w hf hr Kc Q' hK
  obtain ⟨ρ1, w1, nx1, g1, g2, g3, g4⟩ := evalOp_ok hT h hp N ρ a w hf hr
  unfold Oper.wp
  rw [g1]
  rcases g2 with ⟨u, rfl, hu⟩ | ⟨rfl, rfl⟩
  · exact hK ρ1 u w1 hu g3 g4
  · exact hK ρ1 undef w1 (.inl rfl) g3 g4
def WA2 (P : Program) (N K : Nat) (ops : Array Oper) (Q : Exit → St → Prop) (n fuel : Nat) (listed : Array Bool) (fr : Nat → Dat) (m : List Root) (i : Nat) : Prop :=
  ∃ o v m', ops[i]? = some o ∧ gd ops o fr = some true ∧ dstOK N o.dst = true ∧ (MK P o fr m v m' ∨ (n ≤ i ∧ TK P o fr m v m')) ∧ WA P N K ops Q n fuel (listed.setIfInBounds i true) ⟨putO fr o.dst v, m'⟩
theorem WA.allT {fuel : Nat} {listed : Array Bool} {fr : Nat → Dat} {m : List Root} (rs : List Nat) (hr : Region.ready .any ops listed = rs) (hne : rs ≠ []) (h : ∀ i ∈ rs, WA2 P N K ops Q n fuel listed fr m i) : WA P N K ops Q n (fuel + 1) listed ⟨fr, m⟩ := by
  intro hns hclo ρ a w ⟨hfr, hdf, hrep, hK⟩
  refine ⟨fun h0 => absurd (hr ▸ h0) hne, fun i hi => ?_⟩
  obtain ⟨o, v, m', ho, hg, hd, hmk, k⟩ := h i (hr ▸ hi)
  unfold wpOp
  simp only [ho]
  rw [if_pos (gd_wanted hg hfr)]
  have go : ∀ ρ' u w', Holds m'.length ρ' v u → Rep ρ' m' w' → Tr ρ m w ρ' m' w' → wpAnyS P ops (PostA N K ρ ⟨fr, m⟩ w Q) n fuel (listed.setIfInBounds i true) (a.put o.dst u) w' := fun ρ' u w' hu hr' htr => by
    have hreg' := k hns (hclo.ready hi) ρ' (a.put o.dst u) w' ⟨(hfr.tr htr).putO hd hu, by rw [put_defers]; exact hdf, hr', Nat.le_trans hK htr.len⟩
    exact wpAnyS_mono (PostA.tr (s := ⟨fr, m⟩) (s1 := ⟨putO fr o.dst v, m'⟩) (htr.toK hK)) _ _ _ _ hreg'
  rcases hmk with hmk | ⟨hn, hmk⟩
  · exact .inl (hmk N ρ a w hfr hrep _ _ fun ρ' u w' hu hr' htr hb => ⟨fun _ => hb, go ρ' u w' hu hr' htr⟩)
  · exact .inl (hmk N ρ a w hfr hrep _ _ fun ρ' u w' hu hr' htr => ⟨fun h => absurd h (Nat.not_lt.2 hn), go ρ' u w' hu hr' htr⟩)
def takesWB (ops : Array Oper) : List Nat → Array Bool → Bool
  | [], _ => true
  | i :: is, listed => Region.free .any ops listed i && ((Region.ready .any ops listed).contains i && takesWB ops is (listed.setIfInBounds i true))
theorem WA.takeD {fuel : Nat} {listed : Array Bool} {i : Nat} {o : Oper} {fr : Nat → Dat} {m : List Root} {v : Dat} {m2 : List Root} (hi : ops[i]? = some o) (hf : Region.free .any ops listed i = true) (hr : (Region.ready .any ops listed).contains i = true)
    (hg : gd ops o fr = some true) (hd : dstOK N o.dst = true) (ho : QOK P o fr (List.replicate m.length .dead) v m2) (hm : m2 = List.replicate m.length .dead) (k : WA P N K ops Q n fuel (listed.setIfInBounds i true) ⟨putO fr o.dst v, m⟩) : WA P N K ops Q n (fuel + 1) listed ⟨fr, m⟩ := by
  subst hm
  intro hns hclo ρ a w ⟨hfr, hdf, hrep, hK⟩
  have hri : i ∈ Region.ready .any ops listed := by simpa using hr
  obtain ⟨u, ρ', h1, h2, h3⟩ := ho N ρ a (by simpa using hfr)
  have g := h3 w (rep_dead _ _ _)
  have hu : Holds m.length ρ v u := by
    have := g.2.1
    simp only [List.length_replicate] at this h1
    rcases this with h | ⟨h4, h5, h6⟩
    · exact .inl h
    · exact .inr ⟨by rw [h4]; exact enc_congr h1 v h5, h5, h6⟩
  refine wpAnyS_firstW hi hns (fun c a w q => absurd rfl (q.1 c)) fuel listed a w (Region.free_spec hi hf) hri (v := u) (.inl ⟨gd_wanted hg hfr, fun w' _ => (h3 w' (rep_dead _ _ _)).1⟩) ?_
  exact k hns (hclo.ready hri) ρ (a.put o.dst u) w ⟨hfr.putO hd hu, by rw [put_defers]; exact hdf, hrep, hK⟩
def allDead : List Root → Bool
  | [] => true
  | .dead :: l => allDead l
  | _ => false
theorem allDead_eq : ∀ {l : List Root}, allDead l = true → l = List.replicate l.length .dead
  | [], _ => rfl
  | .dead :: l, h => by rw [List.length_cons, List.replicate_succ, ← allDead_eq (l := l) h]
  | .var _ :: _, h => by cases h
  | .row _ _ _ _ :: _, h => by cases h
  | .ro _ _ _ :: _, h => by cases h
def evD (T : TyEnv) (wm : Bool) (N : Nat) (ops : Array Oper) (d : List Root) (l : List Oper) (fr : Nat → Dat) : Option (List Prop × (Nat → Dat)) := match l with
  | [] => some ([], fr)
  | o :: rest => match gd ops o fr with
    | some true => bif dstOK N o.dst && isQ o.op then match evalOp T wm o.op fr d with
      | some (ps, v, m') => bif allDead m' && Nat.beq m'.length d.length then match evD T wm N ops d rest (putO fr o.dst v) with
          | some (qs, fr') => some (ps ++ qs, fr')
          | none => none
        else none
      | none => none
      else none
    | _ => none
theorem WA.takesD' (hT : TOK P T) {wm : Bool} {fuel : Nat} {m : List Root} : ∀ {is : List Nat} {listed : Array Bool} {fr fr' : Nat → Dat} {ps : List Prop}, takesWB ops is listed = true → evD T wm N ops (List.replicate m.length .dead) (pickO ops is) fr = some (ps, fr') → AllP ps →
    WA P N K ops Q n fuel (takesL is listed) ⟨fr', m⟩ → WA P N K ops Q n (fuel + is.length) listed ⟨fr, m⟩
  | [], listed, fr, fr', ps, _, h, _, hk => by
    simp only [pickO, evD, Option.some.injEq, Prod.mk.injEq] at h
    obtain ⟨_, rfl⟩ := h
    exact hk
  | i :: is, listed, fr, fr', ps, hB, h, hp, hk => by
    simp only [takesWB, Bool.and_eq_true] at hB
    obtain ⟨b2, b3, b4⟩ := hB
    have hri : i ∈ Region.ready .any ops listed := by simpa using b3
    obtain ⟨_, o, ho, _⟩ := mem_ready.1 hri
    simp only [pickO, ho, evD] at h
    rw [show fuel + (i :: is).length = (fuel + is.length) + 1 by simp only [List.length_cons]; omega]
    split at h
    · rename_i hg
      cases hd : dstOK N o.dst && isQ o.op with
      | false => rw [hd] at h; cases h
      | true =>
        rw [hd] at h
        simp only [Bool.and_eq_true] at hd
        simp only [cond_true] at h
        split at h
        · rename_i ps1 v m1 he
          cases hm : allDead m1 && Nat.beq m1.length (List.replicate m.length Root.dead).length with
          | false => rw [hm] at h; cases h
          | true =>
          rw [hm] at h
          simp only [Bool.and_eq_true] at hm
          simp only [cond_true] at h
          split at h
          · rename_i qs s1 hr
            simp only [Option.some.injEq, Prod.mk.injEq] at h
            obtain ⟨rfl, rfl⟩ := h
            obtain ⟨hp1, hp2⟩ := hp.app
            refine WA.takeD ho b2 b3 hg hd.1 (evalOp_q hT hd.2 he hp1) ?_ (WA.takesD' hT b4 hr hp2 hk)
            rw [allDead_eq hm.1, Nat.eq_of_beq_eq_true hm.2, List.length_replicate]
          · cases h
        · cases h
    · cases h
theorem WA.takesD (T : TyEnv) (wm : Bool) (hT : TOK P T) (is : List Nat) {fuel f' : Nat} {listed listed' : Array Bool} {fr fr' : Nat → Dat} {m : List Root} {ps : List Prop} {l : List Oper} (hB : takesWB l.toArray is listed = true) (hI : incr is 0 = true) (h : evD T wm N l.toArray (List.replicate m.length .dead) (pickI is 0 l) fr = some (ps, fr')) (hp : AllP ps)
    (hl : takesL is listed = listed') (hf : Nat.beq (f' + is.length) fuel = true) (k : WA P N K l.toArray Q n f' listed' ⟨fr', m⟩) : WA P N K l.toArray Q n fuel listed ⟨fr, m⟩ := by
  subst hl
  rw [← Nat.eq_of_beq_eq_true hf]
  rw [pickI_eq l.toArray l is 0 (fun k => by simp) hI] at h
  exact WA.takesD' hT hB h hp k
theorem WA.end {fuel : Nat} {listed : Array Bool} {s : St} (hf : fuel = 0) (hr : Region.ready .any ops listed = []) (k : NoPan Q .normal s) : WA P N K ops Q n fuel listed s := by
  subst hf
  intro hns hclo ρ a w hrel
  refine ⟨hr, ?_⟩
  obtain ⟨g1, g2⟩ := k
  exact ⟨g1, ρ, s, hrel, TrK.refl _ _ _ _, g2⟩
end
end Go.Proofs.Ythjnmlpibafbnaa.DM
namespace Go.Proofs.Ythjnmlpibafbnaa.DM
open Go.RowKit
set_option linter.unusedVariables false
set_option linter.unusedSimpArgs false
theorem AllP.append {p : Prop} : ∀ {l : List Prop}, AllP l → p → AllP (l ++ [p])
  | [], _, h => h
  | [a], ha, h => ⟨ha, h⟩
  | a :: b :: l, ⟨h1, h2⟩, h => ⟨h1, AllP.append (l := b :: l) h2 h⟩
section
variable {P : Program} {T : TyEnv} {N K : Nat} {Q : Exit → St → Prop} {fr : Nat → Dat} {m m' m0 : List Root} {f : FuncId} {xs : List Dat}
def NormE (k : Nat) (Qf : Dat → List Root → Prop) (r : Dat) (m : List Root) : Prop := ∃ r0 m1, Qf r0 m1 ∧ Norm k r0 m1 r m
theorem FnS.normE {Qf : Dat → List Root → Prop} (h : FnS P f xs m0 (NormE m0.length Qf)) : FnS P f xs m0 Qf := by
  refine ⟨h.enter, fun ρ w hr hx => (h.calls ρ w hr hx).mono ?_⟩
  rintro e w' ⟨r, ρ1, m', rfl, h2, h3, h4, h5, r0, m1, hQ, τ, ht, hren, hsc⟩
  refine ⟨r0, fun j => ρ1 (τ j), m1, by rw [renD_enc hren], hsc, renD_ok hren h3, h4.taken ht, ?_, hQ⟩
  have hcut : TrK m0.length ρ1 m' w' (fun j => ρ1 (τ j)) m1 w' := by
    refine ⟨rfl, rfl, Nat.le_refl _, rfl, Nat.le_refl _, fun r hr => by simp only [ht.fix r hr], fun _ _ _ => rfl, fun r R q h1 h2 h3 => .inr ?_, fun r R q h1 h2 h3 => .inr ?_⟩
    · rcases ht.get r R h1 with rfl | ⟨R0, h4, h5, _⟩
      · cases h2
      · exact ⟨_, R0, q, h4, h5.mine h2, h5.atO h3, rfl⟩
    · rcases ht.get r R h1 with rfl | ⟨R0, h4, h5, _⟩
      · exact absurd rfl h2.ne
      · exact ⟨_, R0, q, h4, h5.at h2, h3, rfl⟩
  exact ((h5.toK (Nat.le_refl _)).trans hcut).full ht.len
theorem FnS.intoE (T : TyEnv) (hT : TOK P T) {fn : Func} {c : Code} {l : List ResultVar} {Qf : Dat → List Root → Prop} (hf : P.funcs[f]? = some fn) (hn : (fn.name == "runtime.NumGoroutine") = false) (hb : fn.body = some c)
    (hl : fn.results = l.toArray) (hk : fn.ntmps = N) (hN : xs.length ≤ N) (h : WP P N m0.length c (Ends T l (NormE m0.length Qf)) ⟨nthD xs, m0⟩) : FnS P f xs m0 Qf :=
  (FnS.into T hT hf hn hb hl hk hN h).normE
theorem Ends.newE {e : Exit} {l : List ResultVar} {k : Nat} {r : Dat} {Qf : Dat → List Root → Prop} {ps : List Prop} (ts : List Nat) {r0 : Dat} {m1 : List Root} (hQ : Qf r0 m1) (he : e = .ret ∨ e = .normal) (h : resE T fr m l = some (ps, r)) (hp : AllP ps) (ht : LeAll k m ts m1) (hd : distinct ts = true) (hs : startsWith k 0 ts = true) (hr : renD (tauOf ts) r0 r) (hsc : Sc m1.length r0) :
    Ends T l (NormE k Qf) e ⟨fr, m⟩ := ⟨he, ps, r, h, hp, r0, m1, hQ, _, Taken.of ts ht hd hs, hr, hsc⟩
theorem WPL.callE {ops : Array Oper} {dst : Tmp} {args : List Operand} {tys : Array TypeId} {t : TypeId} {pos : String} {after : Array Edge} {gg : Option (Nat × Bool)} {rest : List Oper} (ts : List Nat) {Qf : Dat → List Root → Prop} (h : FnS P f xs m0 Qf)
    (hl : LeAll 0 m ts m0) (hk : sameKind m ts m0 = true) (hdi : distinct ts = true) (hx : ArgsR (tauOf ts) fr xs args) (hg : gd ops { dst := some dst, op := .call { callee := .value (.func f), args := args.toArray, argTypes := tys }, type := t, pos := pos, after := after, guard := gg } fr = some true) (hd : Nat.blt dst N = true) (hsc : ∀ x ∈ xs, Sc m0.length x)
    (k : ∀ r m1, Qf r m1 → AllC0 m1 ∧ ∃ r', renD (invT ts m.length) r r' ∧ Sc (putBack m ts m0 m1).length r' ∧ WPL P N K ops Q rest ⟨fup fr dst r', putBack m ts m0 m1⟩) :
    WPL P N K ops Q ({ dst := some dst, op := .call { callee := .value (.func f), args := args.toArray, argTypes := tys }, type := t, pos := pos, after := after, guard := gg } :: rest) ⟨fr, m⟩ :=
  WPL.callG ts h hl (.inl hk) hdi hx hg hd hsc k
end
end Go.Proofs.Ythjnmlpibafbnaa.DM
namespace Go.Proofs.Ythjnmlpibafbnaa.DM
open Go.RowKit
set_option linter.unusedVariables false
set_option linter.unusedSimpArgs false
section
variable {P : Program} {T : TyEnv} {fr : Nat → Dat} {m m' : List Root} {v : Dat} {ps : List Prop} {wm : Bool}
theorem app_keep {P : Program} {t ty e : TypeId} {i : TI} (hu : P.underlying t = some (.slice e)) (hk : i.ok P e) (hby : i.bytes ≤ 4096) {ρ : Rho} {w : World} (h : Rep ρ m w) {r n n' : Nat} {f : Nat → Dat} {r2 off len n2 : Nat} {R2 : Root} {f2 : Nat → Dat} {m1 : List Root} {vb : Value}
    (hbase : (n = 0 ∧ vb = .slice none 0 0 ∧ 0 < len ∧ m1 = m) ∨ (m[r]? = some (.row e n' i.sz f) ∧ n ≤ n' ∧ r ≠ r2 ∧ vb = (ρ r []).slice 0 n i.sz ∧ m1 = m.set r .dead))
    (hR2 : m[r2]? = some R2) (he2 : R2.elems = some (n2, i.sz, f2)) (hlen : off + len ≤ n2) (hb : n + len ≤ 4294967296) (hpl : ∀ j, j < n2 → NoOwn (f2 j)) :
    ∃ ρ' w', (Builtin.append_ #[t, t] ty #[vb, (ρ r2 []).slice off len i.sz]).run P w = .ok (enc ρ' (.sl m.length 0 (n + len) i.sz)) w' ∧ Rep ρ' (m1 ++ [.row e (n + len) i.sz (apF n f off f2)]) w' ∧ Tr ρ m w ρ' (m1 ++ [.row e (n + len) i.sz (apF n f off f2)]) w' := by
  obtain ⟨⟨e2, hcon2⟩, hro2⟩ := h.elems hR2 he2
  have hwf2 := h.wf r2 R2 _ hR2 hcon2
  have hw2 : WF (.ar n2 i.sz f2) := hwf2.1
  have hw2' : WF (.ar len i.sz fun j => f2 (off + j)) := fun j hj => hw2 (off + j) (by omega)
  let A2 : List Nat → RV := fun z => match z with
    | [] => default
    | k :: z => ρ r2 ((off + k) :: z)
  -- the base
  have hbase2 : ∃ xs, w.ownsRow 0 e i.sz vb n xs ∧ xs = cells ρ (ρ r) (.ar n i.sz f) ∧ (NilV vb → 0 < len) ∧ (∀ b, vb.ownBlock = some b → m[r]? = some (.row e n' i.sz f) ∧ n ≤ n' ∧ r ≠ r2 ∧ (ρ r []).b = b ∧ ∀ X, m1[r]? = some X → X = .dead) ∧
      (∀ j, j < n → sz (f j) = i.sz ∧ WF (f j) ∧ Sc m.length (f j)) ∧ (0 < n → m[r]? = some (.row e n' i.sz f) ∧ n ≤ n' ∧ r ≠ r2 ∧ ∀ X, m1[r]? = some X → X = .dead) := by
    rcases hbase with ⟨rfl, rfl, h2, h3⟩ | ⟨h1, h2, h3, h4, h5⟩
    · refine ⟨[], World.ownsRow_nil w 0 e i.sz, by simp [cells], fun _ => h2, (fun b hb => by cases hb), (fun j hj => by omega), (fun hj => by omega)⟩
    · have hwf := h.wf r _ _ h1 rfl
      have hrow := (h.row r _ _ [] e n' i.sz f h1 rfl rfl rfl (.inl rfl)).pre hwf.1 h2 (fun _ _ => rfl)
      have hd : ∀ X, m1[r]? = some X → X = .dead := by
        intro X hX
        rw [h5, List.getElem?_set_self (List.getElem?_eq_some_iff.1 h1).1] at hX
        exact (Option.some.inj hX).symm
      obtain ⟨blk, g1, g2, g3, g4, g5, g6, g7⟩ := hrow
      have hv : vb = .slice (some ⟨(ρ r []).b, 0, none⟩) n (ρ r []).cap := by
        rw [h4]; unfold RV.slice; rw [g3]; simp only [Nat.zero_mul, Nat.add_zero, Nat.sub_zero, g2]
      refine ⟨cells ρ (ρ r) (.ar n i.sz f), ⟨cells_length ρ _ _ (fun j hj => hwf.1 j (by omega)), .inr ⟨(ρ r []).b, _, blk, hv, Nat.zero_le _, g1, g4, g5, g6, g7⟩⟩, rfl, fun hn => ?_, fun b hb => ?_, fun j hj => ?_, fun _ => ⟨h1, h2, h3, hd⟩⟩
      · rw [hv] at hn; cases hn
      · rw [hv] at hb
        exact ⟨h1, h2, h3, Option.some.inj hb, hd⟩
      · exact ⟨(hwf.1 j (by omega)).1, (hwf.1 j (by omega)).2, hwf.2 j (by omega)⟩
  obtain ⟨xs, hown, hxs, hnn, hblkb, hbw, hbr⟩ := hbase2
  have hm1l : m1.length = m.length := by rcases hbase with ⟨_, _, _, h3⟩ | ⟨_, _, _, _, h3⟩ <;> rw [h3] <;> simp
  have hm1 : ∀ (j : Nat) (R : Root), m1[j]? = some R → R = .dead ∨ m[j]? = some R := by
    rcases hbase with ⟨_, _, _, h3⟩ | ⟨_, _, _, _, h3⟩
    · rw [h3]; exact fun j R hj => .inr hj
    · rw [h3]
      refine fun j R hj => ?_
      rcases set_get hj with ⟨_, rfl, _⟩ | ⟨_, hj⟩
      · exact .inl rfl
      · exact .inr hj
  have hnl : (cells ρ A2 (.ar len i.sz fun j => f2 (off + j))).length = len * i.sz := cells_length ρ _ _ hw2'
  obtain ⟨g, cap, w', hrun, hown', hgrow, hg⟩ := app_run (P := P) (t := t) (ty := ty) hu hk hby hown hnn (ρ r2 []) off hnl
    (fun hz j u hj => by
      rcases hro2 with ⟨hz', _⟩ | ⟨_, _, _, _, hc⟩
      · rw [hz] at hz'; cases hz'
      · have := hc _ u (cells_mid hw2 hlen hj)
        rwa [← Nat.add_assoc] at this)
    (fun hz => by
      rcases hro2 with ⟨_, hz'⟩ | ⟨hz', _⟩
      · omega
      · rw [hz] at hz'; cases hz')
    (cells_one _ _ hw2') hb
  let A : List Nat → RV := fun z => match z with
    | [] => ⟨false, g, 0, cap, none, 0⟩
    | k :: z => if k < n then ρ r (k :: z) else ρ r2 ((off + (k - n)) :: z)
  have apl : ∀ {k : Nat}, k < n → apF n f off f2 k = f k := fun hk => by unfold apF; rw [show Nat.blt _ n = true from by rw [Nat.blt_eq]; exact hk]; rfl
  have apr : ∀ {k : Nat}, ¬ k < n → apF n f off f2 k = f2 (off + (k - n)) := fun {k} hk => by unfold apF; rw [show Nat.blt k n = false from by cases hh : Nat.blt k n with | false => rfl | true => rw [Nat.blt_eq] at hh; exact absurd hh hk]; rfl
  have hall : xs ++ cells ρ A2 (.ar len i.sz fun j => f2 (off + j)) = cells ρ A (.ar (n + len) i.sz (apF n f off f2)) := by
    rw [hxs]
    simp only [cells]
    rw [List.range_add, List.flatMap_append, List.flatMap_map]
    congr 1
    · apply flatMap_congr
      intro k hk
      have hk := List.mem_range.1 hk
      rw [apl hk]
      congr 1
      funext z
      simp only [A, if_pos hk]
    · apply flatMap_congr
      intro k hk
      have hk := List.mem_range.1 hk
      rw [apr (k := n + k) (by omega), show n + k - n = k by omega]
      congr 1
      funext z
      simp only [A, A2, if_neg (show ¬ n + k < n by omega), show n + k - n = k by omega]
  have hwn : WF (.ow e (n + len) i.sz (apF n f off f2)) := by
    intro k hk
    by_cases hkn : k < n
    · rw [apl hkn]; exact ⟨(hbw k hkn).1, (hbw k hkn).2.1⟩
    · rw [apr hkn]; exact hw2 _ (by omega)
  have hsn : Sc m.length (.ow e (n + len) i.sz (apF n f off f2)) := by
    intro k hk
    by_cases hkn : k < n
    · rw [apl hkn]; exact (hbw k hkn).2.2
    · rw [apr hkn]; exact hwf2.2 _ (by omega)
  have hrow : RowOK ρ w' (A []) A e (n + len) i.sz (apF n f off f2) := by
    rcases hown'.2 with ⟨h1, _⟩ | ⟨g', cap', cur, h1, _, h3, h4, h5, h6, h7⟩
    · cases h1
    · cases h1
      exact ⟨cur, h3, rfl, rfl, h4, h5, h6, by rw [h7, hall]⟩
  have hres := h.pushRow hm1l hm1 hgrow (run_drawn _ _ hrun) (fun b hb' => by
      obtain ⟨h1, _, _, h4, h5⟩ := hblkb b hb'
      exact ⟨r, _, h1, rfl, rfl, h4, h5⟩) A hrow (hg.imp id id)
    (fun q => match q with
      | [] => (0, [])
      | k :: z => if k < n then (r, k :: z) else (r2, (off + (k - n)) :: z)) ?_ ?_ hwn hsn
  · refine ⟨_, w', ?_, hres.1, hres.2⟩
    rw [hrun]
    simp only [enc, leaf, ext_same, RV.slice, A, Nat.zero_mul, Nat.add_zero, Nat.sub_zero]
  · intro q e' n0 s' f' hq hx
    cases q with
    | nil => exact absurd rfl hq
    | cons k z =>
      simp only [nav] at hx
      split at hx
      · rename_i hkl
        by_cases hkn : k < n
        · obtain ⟨h1, h2, h3, h4⟩ := hbr (by omega)
          rw [apl hkn] at hx
          simp only [if_pos hkn]
          refine ⟨_, _, h1, rfl, ?_, by simp, fun y => ?_, fun _ => ⟨rfl, h4⟩⟩
          · simp only [nav, if_pos (show k < n' by omega)]; exact hx
          · simp only [A, List.cons_append, if_pos hkn]
        · rw [apr hkn] at hx
          simp only [if_neg hkn]
          refine ⟨R2, _, hR2, hcon2, ?_, by simp, fun y => ?_, fun he' => ?_⟩
          · simp only [nav, if_pos (show off + (k - n) < n2 by omega)]; exact hx
          · simp only [A, List.cons_append, if_neg hkn]
          · exact absurd (NoOwn_nav (hpl _ (by omega)) hx).1 he'
      · cases hx
  · intro q q' e' n0 s' f' d' hq hq' hx he hx' hsrc
    cases q with
    | nil => exact absurd rfl hq
    | cons k z =>
      cases q' with
      | nil => exact absurd rfl hq'
      | cons k' z' =>
        have hk1 : k < n → r ≠ r2 := fun hk => (hbr (by omega)).2.2.1
        have hk2 : k' < n → r ≠ r2 := fun hk => (hbr (by omega)).2.2.1
        by_cases h1 : k < n <;> by_cases h2 : k' < n <;> simp only [h1, h2, if_true, if_false, Prod.mk.injEq, List.cons.injEq] at hsrc
        · obtain ⟨_, rfl, rfl⟩ := hsrc; rfl
        · exact absurd hsrc.1 (hk1 h1)
        · exact absurd hsrc.1.symm (hk2 h2)
        · obtain ⟨_, h3, rfl⟩ := hsrc
          rw [show k = k' by omega]
theorem pl_noOwn : ∀ {d : Dat}, Pl d → NoOwn d := by
  intro d
  induction d with
  | ar k s f ih => exact fun h i hi => ih i (h i hi)
  | st k f ih => exact fun h i hi => ih i (h i hi)
  | ow => exact fun h => h.elim
  | _ => exact fun _ => trivial
theorem ok_app_keepN (hT : TOK P T) {o : Oper} {t : TypeId} {x y : Operand} {e sz0 by0 : Nat} {z0 : Dat} {r n n' r2 off len n2 s : Nat} {f f2 : Nat → Dat} {i : TI} {R2 : Root} (ho : o.op = .call { callee := .builtin .append, args := #[x, y], argTypes := #[t, t] }) (hx : ev fr x = .sl r 0 n s) (hy : ev fr y = .sl r2 off len s) (ht : T t = some ⟨.slice e, sz0, by0, z0⟩) (hi : T e = some i) (hs : i.sz = s) (hby : i.bytes ≤ 4096) (hr0 : m[r]? = some (.row e n' s f)) (hR2 : m[r2]? = some R2) (he2 : R2.elems = some (n2, s, f2)) (hne : r ≠ r2) (hpl : ∀ j, j < n2 → NoOwn (f2 j)) (hn : n ≤ n') (hl : off + len ≤ n2) (hb : n + len ≤ 4294967296) {k : Nat} (hk' : n + len = k) {mm : List Root} (hm : m.set r .dead ++ [.row e k s (apF n f off f2)] = mm) :
    OpOK P o fr m (.sl m.length 0 k s) mm := by
  subst hs; subst hk'; subst hm
  have hk := hT e i hi
  have hu := (hT t _ ht).fits
  simp only [Ty.fits] at hu
  intro N ρ a w hf hr
  obtain ⟨h0, _⟩ := ev_eq hf hx (by simp)
  obtain ⟨h0', _⟩ := ev_eq hf hy (by simp)
  obtain ⟨ρ', w', g1, g2, g3⟩ := app_keep (P := P) (t := t) (ty := o.type) hu hk hby hr (.inr ⟨hr0, hn, hne, rfl, rfl⟩) hR2 he2 hl hb hpl
  refine ⟨ρ', w', _, ?_, .inl ⟨_, rfl, .inr ⟨rfl, by simp [Sc], trivial, trivial⟩⟩, g2, g3⟩
  simp only [enc, leaf] at h0 h0' g1 ⊢
  simp [execOp, ho, resolve, invoke, builtin, h0, h0', g1, Result.andThen]
theorem ok_app_keep (hT : TOK P T) {o : Oper} {t : TypeId} {x y : Operand} {e sz0 by0 : Nat} {z0 : Dat} {r n n' r2 off len n2 s : Nat} {f f2 : Nat → Dat} {i : TI} {R2 : Root} (ho : o.op = .call { callee := .builtin .append, args := #[x, y], argTypes := #[t, t] }) (hx : ev fr x = .sl r 0 n s) (hy : ev fr y = .sl r2 off len s) (ht : T t = some ⟨.slice e, sz0, by0, z0⟩) (hi : T e = some i) (hs : i.sz = s) (hby : i.bytes ≤ 4096) (hr0 : m[r]? = some (.row e n' s f)) (hR2 : m[r2]? = some R2) (he2 : R2.elems = some (n2, s, f2)) (hne : r ≠ r2) (hpl : ∀ j, j < n2 → Pl (f2 j)) (hn : n ≤ n') (hl : off + len ≤ n2) (hb : n + len ≤ 4294967296) {k : Nat} (hk' : n + len = k) {mm : List Root} (hm : m.set r .dead ++ [.row e k s (apF n f off f2)] = mm) :
    OpOK P o fr m (.sl m.length 0 k s) mm := ok_app_keepN hT ho hx hy ht hi hs hby hr0 hR2 he2 hne (fun j hj => pl_noOwn (hpl j hj)) hn hl hb hk' hm
end
end Go.Proofs.Ythjnmlpibafbnaa.DM
namespace Go.Proofs.Ythjnmlpibafbnaa.DM
open Go.RowKit
set_option linter.unusedVariables false
set_option linter.unusedSimpArgs false
section
variable {P : Program} {T : TyEnv} {N K : Nat} {Q : Exit → St → Prop} {ops : Array Oper} {n : Nat}
def MKE (P : Program) (o : Oper) (fr : Nat → Dat) (m : List Root) (G : Dat → List Root → Prop) : Prop :=
  ∀ (N : Nat) (ρ : Rho) (a : Act) (w : World), Frm m.length ρ N fr a.tmps → Rep ρ m w → ∀ (Kc : Act → World → Prop) (Q' : Exit → Act → World → Prop),
    (∀ ρ' u w' v m', G v m' → Holds m'.length ρ' v u → Rep ρ' m' w' → Tr ρ m w ρ' m' w' → BelowD w.heap.size w w' → Kc (a.put o.dst u) w') → o.wp P a w Kc Q'
theorem MKE.of {o : Oper} {fr : Nat → Dat} {m m' : List Root} {v : Dat} (h : MK P o fr m v m') : MKE P o fr m fun x y => x = v ∧ y = m' := by
  intro N ρ a w hf hr Kc Q' hK
  exact h N ρ a w hf hr Kc Q' fun ρ' u w' h1 h2 h3 h4 => hK ρ' u w' v m' ⟨rfl, rfl⟩ h1 h2 h3 h4
theorem MKE.call {dst : Tmp} {args : List Operand} {tys : Array TypeId} {t : TypeId} {pos : String} {after : Array Edge} {gg : Option (Nat × Bool)} {f : FuncId} {xs : List Dat} {fr : Nat → Dat} {m m0 : List Root} {Qf G : Dat → List Root → Prop} (ts : List Nat) (h : FnS P f xs m0 Qf)
    (hl : LeAll 0 m ts m0) (hn : noMine m0 = true) (ho : sameKind m ts m0 = true ∨ ∀ r m1, Qf r m1 → OwnNew m0.length m1) (hdi : distinct ts = true) (hx : ArgsR (tauOf ts) fr xs args) (hsc : ∀ x ∈ xs, Sc m0.length x)
    (hc : ∀ r m1, Qf r m1 → AllC0 m1 ∧ ∃ r', renD (invT ts m.length) r r' ∧ Sc (putBack m ts m0 m1).length r' ∧ G r' (putBack m ts m0 m1)) :
    MKE P { dst := some dst, op := .call { callee := .value (.func f), args := args.toArray, argTypes := tys }, type := t, pos := pos, after := after, guard := gg } fr m G := by
  intro N ρ a w hfr hrep Kc Q' hK
  obtain ⟨h1, h2⟩ := hx.eval hfr
  have h0 : a.eval (.func f) = .func (.func f) #[] #[] := rfl
  unfold Oper.wp
  rw [call_run rfl h0 (FnS.enter h)]
  simp only [Oper.upon]
  rw [show args.toArray.map a.eval = (xs.map (enc fun r => ρ (tauOf ts r))).toArray by rw [← h1]; simp]
  refine (FnS.calls h _ w (hrep.taken (Taken.view ts hl (by rw [hdi]; simp))) (fun x hx => ⟨hsc x hx, h2 x hx⟩)).mono ?_
  rintro e w' ⟨r, ρ1, m1', rfl, h3, h4, h5, h6, h7⟩
  obtain ⟨c1, r', c2, c3, c4⟩ := hc r m1' h7
  obtain ⟨g1, g2, g3⟩ := hrep.call ts hl (ho.imp id fun h => ⟨hn, h r m1' h7⟩) hdi h5 h6 c1.get
  refine hK _ _ w' r' _ c4 (.inr ⟨?_, c3, renD_ok' c2 h4⟩) g1 g2 (h6.below fun r R h => noMine_get hn h)
  rw [renD_enc c2]
  exact (enc_congr (n := m1'.length) (fun j hj => g3 j hj) r h3).symm
theorem TK.callN {dst : Tmp} {args : List Operand} {tys : Array TypeId} {t : TypeId} {pos : String} {after : Array Edge} {gg : Option (Nat × Bool)} {f : FuncId} {xs : List Dat} {fr : Nat → Dat} {m m0 m1 : List Root} (ts : List Nat) {r0 : Dat} (r' : Dat) (h : FnS P f xs m0 fun r m' => r = r0 ∧ m' = m1)
    (hl : LeAll 0 m ts m0) (hk : sameKind m ts m0 = true) (hdi : distinct ts = true) (hx : ArgsR (tauOf ts) fr xs args) (hsc : ∀ x ∈ xs, Sc m0.length x)
    (hc : AllC0 m1) (hr : renD (invT ts m.length) r0 r') (hs : Sc (putBack m ts m0 m1).length r') {mm : List Root} (hm : putBack m ts m0 m1 = mm) :
    TK P { dst := some dst, op := .call { callee := .value (.func f), args := args.toArray, argTypes := tys }, type := t, pos := pos, after := after, guard := gg } fr m r' mm := by
  subst hm
  intro N ρ a w hfr hrep Kc Q' hK
  obtain ⟨h1, h2⟩ := hx.eval hfr
  have h0 : a.eval (.func f) = .func (.func f) #[] #[] := rfl
  unfold Oper.wp
  rw [call_run rfl h0 (FnS.enter h)]
  simp only [Oper.upon]
  rw [show args.toArray.map a.eval = (xs.map (enc fun r => ρ (tauOf ts r))).toArray by rw [← h1]; simp]
  refine (FnS.calls h _ w (hrep.taken (Taken.view ts hl (by rw [hdi]; simp))) (fun x hx => ⟨hsc x hx, h2 x hx⟩)).mono ?_
  rintro e w' ⟨r, ρ1, m1', rfl, h3, h4, h5, h6, rfl, rfl⟩
  obtain ⟨g1, g2, g3⟩ := hrep.call ts hl (.inl hk) hdi h5 h6 hc.get
  refine hK _ _ w' (.inr ⟨?_, hs, renD_ok' hr h4⟩) g1 g2
  rw [renD_enc hr]
  exact (enc_congr (n := m1'.length) (fun j hj => g3 j hj) r h3).symm
end
section
variable {P : Program} {N K : Nat} {Q : Exit → St → Prop}
theorem WP.seqG {x y : Code} {s : St} (s1 : St) (h : WP P N K x (Then (fun s' => Ghost K s' s1) Q) s) (k : WP P N K y Q s1) : WP P N K (.seq x y) Q s := by
  refine WP.seq (h.mono ?_)
  intro e s' h
  cases e with
  | normal => exact WP.ghost h k
  | _ => exact h
end
end Go.Proofs.Ythjnmlpibafbnaa.DM
namespace Go.Proofs.Ythjnmlpibafbnaa.DM
open Go.RowKit
set_option linter.unusedVariables false
set_option linter.unusedSimpArgs false
def RefR (τ : Nat → Nat) (n : Nat) : Dat → Dat → Prop
  | .p r q o, d => d = .p (τ r) q o ∧ r < n
  | .sl r a b c, d => d = .sl (τ r) a b c ∧ r < n
  | _, _ => False
def renC (τ : Nat → Nat) : Dat → Dat → Prop
  | .p r q o, d => d = .p (τ r) q o
  | .sl r a b c, d => d = .sl (τ r) a b c
  | .tup n f, d => ∃ f', d = .tup n f' ∧ ∀ i, i < n → renC τ (f i) (f' i)
  | .fn g n f, d => ∃ f', d = .fn g n f' ∧ ∀ i, i < n → RefR τ (τ 0 + 1000000) (f i) (f' i)
  | d', d => d = d' ∧ Sc 0 d
theorem RefR.leaf {τ : Nat → Nat} {n : Nat} {ρ : Rho} {A B : List Nat → RV} : ∀ {v v0 : Dat}, RefR τ n v v0 → leaf ρ A v0 = leaf (fun r => ρ (τ r)) B v
  | .p r q o, _, ⟨h, _⟩ => by rw [h]; rfl
  | .sl r a b c, _, ⟨h, _⟩ => by rw [h]; rfl
theorem RefR.cells {τ : Nat → Nat} {n : Nat} {ρ : Rho} {A B : List Nat → RV} : ∀ {v v0 : Dat}, RefR τ n v v0 → cells ρ A v0 = cells (fun r => ρ (τ r)) B v
  | .p r q o, _, ⟨h, _⟩ => by rw [h]; rfl
  | .sl r a b c, _, ⟨h, _⟩ => by rw [h]; rfl
theorem RefR.sc {τ : Nat → Nat} {n : Nat} : ∀ {v v0 : Dat}, RefR τ n v v0 → WF v ∧ Sc n v
  | .p r q o, _, ⟨_, h⟩ => ⟨trivial, h⟩
  | .sl r a b c, _, ⟨_, h⟩ => ⟨trivial, h⟩
theorem RefR.nav {τ : Nat → Nat} {n : Nat} {q : List Nat} {e k s : Nat} {f : Nat → Dat} : ∀ {v v0 : Dat}, RefR τ n v v0 → nav v q ≠ some (.ow e k s f)
  | .p r q' o, _, _ => by cases q <;> simp [DM.nav]
  | .sl r a b c, _, _ => by cases q <;> simp [DM.nav]
structure TakenC (τ : Nat → Nat) (k : Nat) (m m' : List Root) : Prop where
  get : ∀ (j : Nat) (R : Root), m'[j]? = some R → R = .dead ∨ (∃ R0, m[τ j]? = some R0 ∧ R0.Le R ∧ ∀ d, R.con = some d → Sc k d) ∨ (∃ v v0, R = .var v ∧ m[τ j]? = some (.var v0) ∧ RefR τ m'.length v v0)
  inj : ∀ (i j : Nat) (R R' : Root), m'[i]? = some R → m'[j]? = some R' → R.mine = true → R' ≠ .dead → τ i = τ j → i = j
  fix : ∀ r, r < k → τ r = r
  len : k ≤ m'.length
theorem TakenC.live {τ : Nat → Nat} {k : Nat} {m m' : List Root} (ht : TakenC τ k m m') {j : Nat} {X : Root} {z : List Nat} (hx : m'[j]? = some X) (hz : At X z) : (∃ R0, m[τ j]? = some R0 ∧ (X.mine = true → R0.mine = true) ∧ At R0 z ∧ (AtO X z → AtO R0 z)) ∧ X ≠ .dead := by
  refine ⟨?_, ?_⟩
  · rcases ht.get j X hx with rfl | ⟨R0, h8, h9, _⟩ | ⟨v, v0, rfl, h8, h9⟩
    · rcases hz with ⟨_, hz⟩ | ⟨_, _, _, _, _, hz, _⟩ <;> cases hz
    · exact ⟨R0, h8, h9.mine, h9.at hz, h9.atO⟩
    · have hq : z = [] := by
        rcases hz with ⟨h, _⟩ | ⟨d, e, n, s, f, h1, h2⟩
        · exact h
        · cases h1; exact absurd h2 h9.nav
      subst hq
      exact ⟨_, h8, fun _ => rfl, .inl ⟨rfl, rfl⟩, fun _ => .inl ⟨rfl, rfl⟩⟩
  · rintro rfl
    rcases hz with ⟨_, hz⟩ | ⟨_, _, _, _, _, hz, _⟩ <;> cases hz
def SlotsC (τ : Nat → Nat) (n : Nat) (fr : Nat → Dat) : List (Nat × Dat) → Prop
  | [] => True
  | (x, v) :: l => (renC τ v (fr x) ∧ Sc n v) ∧ SlotsC τ n fr l
theorem SlotsC.mem {τ : Nat → Nat} {n : Nat} {fr : Nat → Dat} : ∀ {l : List (Nat × Dat)}, SlotsC τ n fr l → ∀ {x : Nat} {v : Dat}, (x, v) ∈ l → renC τ v (fr x) ∧ Sc n v
  | (y, u) :: l, h, x, v, hm => by
    simp only [List.mem_cons, Prod.mk.injEq] at hm
    rcases hm with ⟨rfl, rfl⟩ | hm
    · exact h.1
    · exact h.2.mem hm
theorem SlotsC.cons {τ : Nat → Nat} {n : Nat} {fr : Nat → Dat} {x : Nat} {v : Dat} {l : List (Nat × Dat)} (h1 : renC τ v (fr x)) (h2 : Sc n v) (h3 : SlotsC τ n fr l) : SlotsC τ n fr ((x, v) :: l) := ⟨⟨h1, h2⟩, h3⟩
section
variable {P : Program} {T : TyEnv} {N K : Nat} {Q : Exit → St → Prop} {fr : Nat → Dat} {m m' m0 : List Root} {f : FuncId} {xs : List Dat}
def AllC (τ : Nat → Nat) (n k : Nat) (m : List Root) : List Nat → List Root → Prop
  | t :: ts, R :: l => (∃ R0, m[t]? = some R0 ∧ ((R0.Le R ∧ ∀ d, R.con = some d → Sc k d) ∨ ∃ v v0, R = .var v ∧ R0 = .var v0 ∧ RefR τ n v v0)) ∧ AllC τ n k m ts l
  | [], [] => True
  | _, _ => False
theorem AllC.cons {τ : Nat → Nat} {n k : Nat} {m : List Root} {t : Nat} {ts : List Nat} {R : Root} {l : List Root} (h : ∃ R0, m[t]? = some R0 ∧ ((R0.Le R ∧ ∀ d, R.con = some d → Sc k d) ∨ ∃ v v0, R = .var v ∧ R0 = .var v0 ∧ RefR τ n v v0)) (h2 : AllC τ n k m ts l) : AllC τ n k m (t :: ts) (R :: l) := ⟨h, h2⟩
theorem AllC.le {τ : Nat → Nat} {n k : Nat} {m : List Root} {t : Nat} {R0 R : Root} (h : m[t]? = some R0) (h1 : R0.Le R) (h2 : ∀ d, R.con = some d → Sc k d) : ∃ R0, m[t]? = some R0 ∧ ((R0.Le R ∧ ∀ d, R.con = some d → Sc k d) ∨ ∃ v v0, R = .var v ∧ R0 = .var v0 ∧ RefR τ n v v0) := ⟨R0, h, .inl ⟨h1, h2⟩⟩
theorem AllC.get {τ : Nat → Nat} {n k : Nat} {m : List Root} : ∀ {ts : List Nat} {l : List Root}, AllC τ n k m ts l → ts.length = l.length ∧ ∀ {j : Nat} {R : Root}, l[j]? = some R → ∃ R0, m[pickT ts j]? = some R0 ∧ ((R0.Le R ∧ ∀ d, R.con = some d → Sc k d) ∨ ∃ v v0, R = .var v ∧ R0 = .var v0 ∧ RefR τ n v v0)
  | [], [], _ => ⟨rfl, fun h => by simp at h⟩
  | [], _ :: _, h => h.elim
  | _ :: _, [], h => h.elim
  | t :: ts, R :: l, ⟨h1, h2⟩ => by
    obtain ⟨g1, g2⟩ := h2.get
    refine ⟨by simp [g1], fun {j X} hj => ?_⟩
    cases j with
    | zero => simp only [List.getElem?_cons_zero, Option.some.injEq] at hj; subst hj; exact h1
    | succ j => exact g2 (by simpa using hj)
theorem TakenC.of (ts : List Nat) {k : Nat} (h : AllC (tauOf ts) m'.length k m ts m') (hd : distinct ts = true) (hs : startsWith k 0 ts = true) : TakenC (tauOf ts) k m m' := by
  obtain ⟨g1, g2⟩ := h.get
  obtain ⟨f1, f2⟩ := startsWith_get hs
  have hlt : ∀ {j : Nat} {R : Root}, m'[j]? = some R → j < ts.length := fun h => by rw [g1]; exact (List.getElem?_eq_some_iff.1 h).1
  refine ⟨fun j R hj => .inr ?_, fun i j R R' hi hj _ _ e => ?_, fun r hr => ?_, by omega⟩
  · obtain ⟨R0, h1, h2⟩ := g2 hj
    rw [tauOf_lt (hlt hj)]
    rcases h2 with h2 | ⟨v, v0, e1, e2, h2⟩
    · exact .inl ⟨R0, h1, h2⟩
    · exact .inr ⟨v, v0, e1, by rw [h1, e2], h2⟩
  · rw [tauOf_lt (hlt hi), tauOf_lt (hlt hj)] at e
    exact distinct_inj hd (hlt hi) (hlt hj) e
  · rw [tauOf_lt (by omega)]
    have := f2 (j := r) (by omega)
    omega
end
end Go.Proofs.Ythjnmlpibafbnaa.DM
namespace Go.Proofs.Ythjnmlpibafbnaa.DM
open Go.RowKit
set_option linter.unusedVariables false
set_option linter.unusedSimpArgs false
section
variable {P : Program} {N K : Nat} {Q : Exit → St → Prop}
theorem WPL.skipU {ops : Array Oper} {o : Oper} {rest : List Oper} {fr : Nat → Dat} {m : List Root} (hg : gdF ops o fr = true) (hd : dstOK N o.dst = true)
    (h : WPL P N K ops Q rest ⟨putO fr o.dst unD, m⟩) : WPL P N K ops Q (o :: rest) ⟨fr, m⟩ := by
  intro ρ a w ⟨hf, hdf, hr, hK⟩
  refine wpList_step fun Kc hKc => ?_
  rw [if_neg (by rw [gdF_wanted hg hf]; simp)]
  exact hKc _ _ (h ρ _ w ⟨hf.putO hd (.inr ⟨rfl, fun i hi => absurd hi (Nat.not_lt_zero _), fun i hi => absurd hi (Nat.not_lt_zero _)⟩), by rw [put_defers]; exact hdf, hr, hK⟩)
end
end Go.Proofs.Ythjnmlpibafbnaa.DM
namespace Go.Proofs.Ythjnmlpibafbnaa.DM
open Go.RowKit
set_option linter.unusedVariables false
set_option linter.unusedSimpArgs false
section
variable {P : Program} {T : TyEnv} {fr : Nat → Dat} {m : List Root}
theorem rep_none {ρ : Rho} {w : World} (hr : Rep ρ m w) (a : Addr) (c s : Nat) (f : Nat → Dat) :
    let ρ' := ext ρ m.length (fun _ => ⟨true, 0, 0, 0, some a, c⟩)
    Rep ρ' (m ++ [.ro 0 s f]) w ∧ Tr ρ m w ρ' (m ++ [.ro 0 s f]) w := by
  intro ρ'
  have hρ : ∀ r, r < m.length → ρ' r = ρ r := fun r hr => ext_ne ρ _ (by omega)
  have hn : ρ' m.length = fun _ => ⟨true, 0, 0, 0, some a, c⟩ := ext_same ρ _ _
  have h1 : Rep ρ' m w := hr.rho hρ
  have nv : ∀ {q : List Nat} {e n s' : Nat} {f' : Nat → Dat}, nav (.ow 0 0 s f) q = some (.ow e n s' f') → q = [] ∧ n = 0 := fun {q e n s' f'} h => by
    cases q with
    | nil => simp only [nav, Option.some.injEq, Dat.ow.injEq] at h; exact ⟨rfl, h.2.1.symm⟩
    | cons i q => simp only [nav] at h; rw [if_neg (Nat.not_lt_zero _)] at h; cases h
  refine ⟨h1.push (fun d h => by cases h) (fun d q e n s' f' h => by cases h) (fun d q e n s' f' _ hd hx => ?_) (fun q r' R' q' _ _ _ _ hz _ => ?_) (fun q q' h => by cases h) (fun q h => by cases h) (fun d hd => ?_) (fun b l hh => by cases hh), ?_⟩
  · cases hd
    obtain ⟨rfl, rfl⟩ := nv hx
    rw [hn]; exact .inl ⟨rfl, rfl⟩
  · rw [hn] at hz; cases hz
  · cases hd
    exact ⟨fun i hi => absurd hi (Nat.not_lt_zero _), fun i hi => absurd hi (Nat.not_lt_zero _)⟩
  · refine ⟨rfl, rfl, Nat.le_refl _, rfl, Nat.le_refl _, fun r' hr' => by rw [hρ r' hr'], by simp, fun _ _ _ => rfl, fun r' R' z hr' hm ha => ?_, fun r' R' z hr' ha hz => ?_⟩
    · rcases snoc_get hr' with ⟨hlt, h2⟩ | ⟨rfl, rfl⟩
      · rw [hρ r' hlt]; exact .inr ⟨r', R', z, h2, hm, ha, rfl⟩
      · cases hm
    · rcases snoc_get hr' with ⟨hlt, h2⟩ | ⟨rfl, rfl⟩
      · rw [hρ r' hlt] at hz ⊢; exact .inr ⟨r', R', z, h2, ha, hz, rfl⟩
      · rw [hn] at hz; cases hz
theorem sle_ok (hT : TOK P T) {o : Oper} {t : TypeId} {x y : Operand} {e sz0 by0 : Nat} {z0 : Dat} {r off s n l : Nat} {k : IntKind} {f : Nat → Dat} {e' : TypeId} (g : Nat → Dat) (ho : o.op = .slice t x (some y) none none) (ht : T t = some ⟨.slice e, sz0, by0, z0⟩) (hx : ev fr x = .sl r off l s) (hy : ev fr y = .i k (l : Int))
    {i : TI} (hi : T e = some i) (hs : i.sz = s) (hR : m[r]? = some (.row e' n s f)) (hh : off + l ≤ n) : QOK P o fr m (.sl m.length 0 0 s) (m ++ [.ro 0 s g]) := by
  intro N ρ ac hf
  obtain ⟨h0, hsc, _⟩ := ev_eq hf (x := x) hx (by simp)
  obtain ⟨h1, _⟩ := ev_eq hf (x := y) hy (by simp)
  have hu := (hT t _ ht).fits
  simp only [Ty.fits] at hu
  have hel : P.elem t = e := by simp [Program.elem, hu]
  have hu' : P.underlying t = some (.slice (P.elem t)) := by rw [hel]; exact hu
  let ad : Addr := if (ρ r []).cap - off = l then ⟨(ρ r []).b, (ρ r []).o + off * s, none⟩ else ⟨(ρ r []).b, (ρ r []).o + (off + l) * s, none⟩
  refine ⟨.slice (some ad) 0 ((ρ r []).cap - off - l), ext ρ m.length (fun _ => ⟨true, 0, 0, 0, some ad, (ρ r []).cap - off - l⟩), fun r' hr' => by rw [ext_ne ρ _ (by omega)], by simp, fun w hr => ?_⟩
  have hnil := hr.mine_nil hR rfl (.inl ⟨rfl, rfl⟩)
  have hcap : n ≤ (ρ r []).cap := by
    obtain ⟨blk, hb, _, _, hc, _⟩ := hr.row r _ _ [] e' n s f hR rfl rfl rfl (.inl rfl)
    exact hc
  obtain ⟨g1, g2⟩ := rep_none hr ad ((ρ r []).cap - off - l) s g
  refine ⟨?_, .inr ⟨?_, by simp [Sc], trivial, trivial⟩, g1, g2⟩
  · obtain ⟨ti, z, k1, _, _, k4, _, _⟩ := info_all (hT e i hi)
    simp only [execOp, ho, Option.map_none, Option.map_some, h0, h1, enc, leaf, RV.slice, hnil]
    have h2 := run_sliceAt_slice (P := P) w t (.slice (some ⟨(ρ r []).b, (ρ r []).o + off * s, none⟩) l ((ρ r []).cap - off)) (some (.int k (l : Int))) none none hu'
    have := run_slice_l (P := P) w t (some ⟨(ρ r []).b, (ρ r []).o + off * s, none⟩) l ((ρ r []).cap - off) hu' k (l : Int) (by omega) (by omega)
    have hsz : ti.size = s := by rw [k4, hs]
    have hadd : (⟨(ρ r []).b, (ρ r []).o + off * s, none⟩ : Addr).add (l * s) = ⟨(ρ r []).b, (ρ r []).o + (off + l) * s, none⟩ := by
      unfold Addr.add
      rw [Nat.add_mul, ← Nat.add_assoc]
      split
      · rename_i h; rw [h]; rfl
      · rfl
    simp only [Sem.run_bind, h2, this, hel, sizeOf, typeInfo, k1, Sem.run_pure, Result.andThen_ok, sliced, Int.toNat_natCast, Option.map_some, Nat.sub_self]
    by_cases hc1 : (ρ r []).cap - off = l
    · simp [k1, hsz, hadd, Result.andThen, ad, hc1]
    · simp [k1, hsz, hadd, Result.andThen, ad, hc1]
  · simp only [enc, leaf, ext_same, RV.slice]
end
end Go.Proofs.Ythjnmlpibafbnaa.DM
