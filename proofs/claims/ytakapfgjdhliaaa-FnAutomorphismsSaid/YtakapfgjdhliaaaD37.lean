import Derived.Test.YtakapfgjdhliaaaX12
import Derived.Test.YtakapfgjdhliaaaD34
/- Renamed dessins: both sides; the law. -/
namespace Go.Proofs.Ytakapfgjdhliaaa
open Go.RowKit DM
set_option linter.unusedSimpArgs false
set_option linter.unusedVariables false
set_option maxRecDepth 100000
set_option maxHeartbeats 1000000

/-- An array renamed, after k steps. -/
def renTo (p b : Nat → Nat) : Nat → Nat → Nat
  | 0 => fun _ => 0
  | k + 1 => up (renTo p b k) (p k) (p (b k))

theorem rename_fn (N : Nat) (b w p : Nat → Nat) (hN : N ≤ 16) (hb : ∀ i, i < N → b i < 16) (hw : ∀ i, i < N → w i < 16) (hp : ∀ i, i < N → p i < 16) : FnP Try.prog 72 [ds_ N b w, pl p] (ds_ N (renTo p b N) (renTo p w N)) := by
  refine FnS.into T tok Try.func72 (by rfl) rfl rfl rfl (by simp) ?_
  refine WP.rs T false tok (by rfl) (by exact byObl) ?_
  refine WP.rs T false tok (by rfl) (by exact byObl) ?_
  refine WP.seq ?_
  refine WP.rs T false tok (by rfl) (by exact byObl) ?_
  refine WP.block ?_
  refine WP.loopH (⟨fun k : Nat => k ≤ N, fun k => [(2, .p 0 [] 0), (3, .p 1 [] 0), (4, .p 2 [] 0), (5, .p 3 [] 0), (11, .i .i64 N), (12, .i .i64 k)], fun k => [.var (ds_ N b w), .var (pl p), .var (ds_ 0 (fun _ => 0) (fun _ => 0)), .var (ds_ N (renTo p b k) (renTo p w k))], fun k => N - k⟩) (0) (Nat.zero_le _) (Ghost.cut (Nat.le_refl _) (tauOf [0, 1, 2, 3]) _ _ (Taken.of [0, 1, 2, 3] (LeAll.cons (by rfl) (by first | with_reducible exact Root.Le.refl _ | with_reducible exact le_dead | (exact le_var (dsf_of rfl rfl rfl fun _ => rfl).symm) | exact byLeq) (by exact byCon) (LeAll.cons (by rfl) (by first | with_reducible exact Root.Le.refl _ | with_reducible exact le_dead | (exact le_var (dsf_of rfl rfl rfl fun _ => rfl).symm) | exact byLeq) (by exact byCon) (LeAll.cons (by rfl) (by first | with_reducible exact Root.Le.refl _ | with_reducible exact le_dead | (exact le_var (dsf_of rfl rfl rfl fun _ => rfl).symm) | exact byLeq) (by exact byCon) (LeAll.cons (by rfl) (by first | with_reducible exact Root.Le.refl _ | with_reducible exact le_dead | (exact le_var (dsf_of rfl rfl rfl fun _ => rfl).symm) | exact byLeq) (by exact byCon) (trivial))))) rfl rfl) (by exact bySlots)) ?_
  intro k hk
  dsimp only at hk
  dsimp only [Hd.at]
  refine WP.rs T false tok (by rfl) (by exact byObl) ?_
  refine WP.seq ?_
  refine WP.cond (by rfl) (fun hc => WP.skip ?_) (fun hc => WP.exit ?_)
  · have hk : k < N := by have := of_decide_eq_true hc; omega
    have hbk := hb k hk
    have hwk := hw k hk
    have hpk := hp k hk
    refine WP.seq (WP.block ?_)
    refine WP.rs T false tok (by rfl) (by exact byObl) ?_
    refine WP.seq ?_
    refine WP.dt (T := T) 11 0 ?_
    refine HW.run false 11 tok (by rfl) (by exact byObl) ?_
    refine HW.fin tok (by kernel_rfl) 11 0 (by rfl) (by kernel_rfl) (by kernel_rfl) (by kernel_rfl) (by rfl) (by rfl) rfl rfl ?_
    refine WPL.fin T false tok (by rfl) (by exact byObl) ?_
    refine WP.mem (by simp only [upd, pl, dsf, cast1, Int.toNat_natCast, fup_u8, fup_b, fup_i64, dsf_up0, dsf_up1, dsf_up2]; rfl) ?_
    refine WP.dt (T := T) 11 0 ?_
    refine HW.run false 11 tok (by rfl) (by exact byObl) ?_
    refine HW.fin tok (by kernel_rfl) 11 0 (by rfl) (by kernel_rfl) (by kernel_rfl) (by kernel_rfl) (by rfl) (by rfl) rfl rfl ?_
    refine WPL.fin T false tok (by rfl) (by exact byObl) ?_
    refine WP.run T false tok (by rfl) (by exact byObl) ?_
    refine Again.next (k + 1) (Ghost.cut (Nat.le_refl _) (tauOf [0, 1, 2, 3]) _ _ (Taken.of [0, 1, 2, 3] (LeAll.cons (by rfl) (by first | with_reducible exact Root.Le.refl _ | with_reducible exact le_dead | (skip; done) | exact byLeq) (by exact byCon) (LeAll.cons (by rfl) (by first | with_reducible exact Root.Le.refl _ | with_reducible exact le_dead | (skip; done) | exact byLeq) (by exact byCon) (LeAll.cons (by rfl) (by first | with_reducible exact Root.Le.refl _ | with_reducible exact le_dead | (skip; done) | exact byLeq) (by exact byCon) (LeAll.cons (by rfl) (by first | with_reducible exact Root.Le.refl _ | with_reducible exact le_dead | (skip; done) | exact byLeq) (by exact byCon) (trivial))))) rfl rfl) (by exact bySlots)) (hk) (by dsimp only; omega)
  · have hk : k = N := by have := of_decide_eq_false hc; omega
    subst hk
    refine WP.rs T false tok (by rfl) (by exact byObl) ?_
    exact WP.ret (Ends.val (by rfl) (by exact byObl) (by rfl) (by exact sc_ds _ _ _ _))

theorem l02Rename_fn (N : Nat) (b w p : Nat → Nat) (hN : N ≤ 16) (hb : ∀ i, i < N → b i < 16) (hw : ∀ i, i < N → w i < 16) (hp : ∀ i, i < N → p i < 16) : FnP Try.prog 78 [ds_ N b w, pl p] (ds_ N (renTo p b N) (renTo p w N)) := by
  refine FnS.into T tok Try.func78 (by rfl) rfl rfl rfl (by simp) ?_
  refine WP.rs T false tok (by rfl) (by exact byObl) ?_
  refine WP.rs T false tok (by rfl) (by exact byObl) ?_
  refine WP.seq ?_
  refine WP.rs T false tok (by rfl) (by exact byObl) ?_
  refine WP.block ?_
  refine WP.loopH (⟨fun k : Nat => k ≤ N, fun k => [(2, .p 0 [] 0), (3, .p 1 [] 0), (4, .p 2 [] 0), (5, .p 3 [] 0), (6, .i .i64 k)], fun k => [.var (ds_ N b w), .var (pl p), .var (ds_ 0 (fun _ => 0) (fun _ => 0)), .var (ds_ N (renTo p b k) (renTo p w k))], fun k => N - k⟩) (0) (Nat.zero_le _) (Ghost.cut (Nat.le_refl _) (tauOf [0, 1, 2, 3]) _ _ (Taken.of [0, 1, 2, 3] (LeAll.cons (by rfl) (by first | with_reducible exact Root.Le.refl _ | with_reducible exact le_dead | (exact le_var (dsf_of rfl rfl rfl fun _ => rfl).symm) | exact byLeq) (by exact byCon) (LeAll.cons (by rfl) (by first | with_reducible exact Root.Le.refl _ | with_reducible exact le_dead | (exact le_var (dsf_of rfl rfl rfl fun _ => rfl).symm) | exact byLeq) (by exact byCon) (LeAll.cons (by rfl) (by first | with_reducible exact Root.Le.refl _ | with_reducible exact le_dead | (exact le_var (dsf_of rfl rfl rfl fun _ => rfl).symm) | exact byLeq) (by exact byCon) (LeAll.cons (by rfl) (by first | with_reducible exact Root.Le.refl _ | with_reducible exact le_dead | (exact le_var (dsf_of rfl rfl rfl fun _ => rfl).symm) | exact byLeq) (by exact byCon) (trivial))))) rfl rfl) (by exact bySlots)) ?_
  intro k hk
  dsimp only at hk
  dsimp only [Hd.at]
  refine WP.seq ?_
  refine WP.rs T false tok (by rfl) (by exact byObl) ?_
  refine WP.cond (by rfl) (fun hc => WP.skip ?_) (fun hc => WP.exit ?_)
  · have hk : k < N := by have := of_decide_eq_true hc; omega
    have hbk := hb k hk
    have hwk := hw k hk
    have hpk := hp k hk
    refine WP.seq (WP.block ?_)
    refine WP.seq ?_
    refine WP.dt (T := T) 11 0 ?_
    refine HW.run false 11 tok (by rfl) (by exact byObl) ?_
    refine HW.fin tok (by kernel_rfl) 11 0 (by rfl) (by kernel_rfl) (by kernel_rfl) (by kernel_rfl) (by rfl) (by rfl) rfl rfl ?_
    refine WPL.fin T false tok (by rfl) (by exact byObl) ?_
    refine WP.mem (by simp only [upd, pl, dsf, cast1, Int.toNat_natCast, fup_u8, fup_b, fup_i64, dsf_up0, dsf_up1, dsf_up2]; rfl) ?_
    refine WP.dt (T := T) 11 0 ?_
    refine HW.run false 11 tok (by rfl) (by exact byObl) ?_
    refine HW.fin tok (by kernel_rfl) 11 0 (by rfl) (by kernel_rfl) (by kernel_rfl) (by kernel_rfl) (by rfl) (by rfl) rfl rfl ?_
    refine WPL.fin T false tok (by rfl) (by exact byObl) ?_
    refine WP.run T false tok (by rfl) (by exact byObl) ?_
    refine Again.next (k + 1) (Ghost.cut (Nat.le_refl _) (tauOf [0, 1, 2, 3]) _ _ (Taken.of [0, 1, 2, 3] (LeAll.cons (by rfl) (by first | with_reducible exact Root.Le.refl _ | with_reducible exact le_dead | (skip; done) | exact byLeq) (by exact byCon) (LeAll.cons (by rfl) (by first | with_reducible exact Root.Le.refl _ | with_reducible exact le_dead | (skip; done) | exact byLeq) (by exact byCon) (LeAll.cons (by rfl) (by first | with_reducible exact Root.Le.refl _ | with_reducible exact le_dead | (skip; done) | exact byLeq) (by exact byCon) (LeAll.cons (by rfl) (by first | with_reducible exact Root.Le.refl _ | with_reducible exact le_dead | (skip; done) | exact byLeq) (by exact byCon) (trivial))))) rfl rfl) (by exact bySlots)) (hk) (by dsimp only; omega)
  · have hk : k = N := by have := of_decide_eq_false hc; omega
    subst hk
    refine WP.rs T false tok (by rfl) (by exact byObl) ?_
    exact WP.ret (Ends.val (by rfl) (by exact byObl) (by rfl) (by exact sc_ds _ _ _ _))

noncomputable def renR (n : Int) (b w p : Nat → Nat) : Dat := bif desB n b w && permB p n then t2 (ds_ n (renTo p b n.toNat) (renTo p w n.toNat)) (.i .i64 0) else t2 (ds_ 0 (fun _ => 0) (fun _ => 0)) (.i .i64 1)
theorem Perm.lt16 {N : Nat} {p : Nat → Nat} (h : Perm N p) (hN : N ≤ 16) : ∀ i, i < N → p i < 16 := fun i hi => Nat.lt_of_lt_of_le (h.lt i hi) hN

theorem implRename_fn (n : Int) (b w p : Nat → Nat) (hb : ∀ i, b i < 256) (hw : ∀ i, w i < 256) (hp : ∀ i, p i < 256) : FnP Try.prog 40 [ds_ n b w, pl p] (renR n b w p) := by
  refine FnS.into T tok Try.func40 (by rfl) rfl rfl rfl (by simp) ?_
  refine WP.rs T false tok (by rfl) (by exact byObl) ?_
  refine WP.seq ?_
  cases hc : desB n b w
  · have e : renR n b w p = t2 (ds_ 0 (fun _ => 0) (fun _ => 0)) (.i .i64 1) := by unfold renR; rw [hc]; rfl
    refine WP.rw ?_
    refine WPL.run T false 1 tok (by rfl) (by exact byObl) ?_
    refine WPL.call (hc ▸ implIsDessin_fn n b w hb hw) (by rfl) (by rfl) (by rfl) (by simp [Sc, sc_pl, sc_ds, pl_ne, ds_ne]) ?_
    refine WPL.fin T false tok (by rfl) (by exact byObl) ?_
    refine WP.cond (by rfl) (fun h => ?_) (fun h => WP.skip ?_)
    · refine WP.rs T false tok (by rfl) (by exact byObl) ?_
      rw [e]
      exact WP.ret (Ends.val (by rfl) (by exact byObl) (by exact congrArg (t2 · _) (dsf_of rfl rfl rfl fun _ => rfl)) (by exact sc_t2 (sc_ds _ _ _ _) trivial))
    · cases h
  · cases hq : permB p n
    · have e : renR n b w p = t2 (ds_ 0 (fun _ => 0) (fun _ => 0)) (.i .i64 1) := by unfold renR; rw [hc, hq]; rfl
      refine WP.rw ?_
      refine WPL.run T false 1 tok (by rfl) (by exact byObl) ?_
      refine WPL.call (hc ▸ implIsDessin_fn n b w hb hw) (by rfl) (by rfl) (by rfl) (by simp [Sc, sc_pl, sc_ds, pl_ne, ds_ne]) ?_
      refine WPL.run T false 5 tok (by rfl) (by exact byObl) ?_
      refine WPL.call (hq ▸ IsPermutation_fn p hp n) (by rfl) (by rfl) (by rfl) (by simp [Sc, sc_pl, sc_ds, pl_ne, ds_ne]) ?_
      refine WPL.fin T false tok (by rfl) (by exact byObl) ?_
      refine WP.cond (by rfl) (fun h => ?_) (fun h => WP.skip ?_)
      · refine WP.rs T false tok (by rfl) (by exact byObl) ?_
        rw [e]
        exact WP.ret (Ends.val (by rfl) (by exact byObl) (by exact congrArg (t2 · _) (dsf_of rfl rfl rfl fun _ => rfl)) (by exact sc_t2 (sc_ds _ _ _ _) trivial))
      · cases h
    · obtain ⟨N, rfl, hD⟩ := des_of_B hc
      obtain ⟨N', eN, _, _, hP⟩ := perm_of_B hq
      obtain rfl : N = N' := by omega
      have e : renR N b w p = t2 (ds_ N (renTo p b N) (renTo p w N)) (.i .i64 0) := by unfold renR; rw [hc, hq]; rfl
      refine WP.rw ?_
      refine WPL.run T false 1 tok (by rfl) (by exact byObl) ?_
      refine WPL.call (hc ▸ implIsDessin_fn N b w hb hw) (by rfl) (by rfl) (by rfl) (by simp [Sc, sc_pl, sc_ds, pl_ne, ds_ne]) ?_
      refine WPL.run T false 5 tok (by rfl) (by exact byObl) ?_
      refine WPL.call (hq ▸ IsPermutation_fn p hp N) (by rfl) (by rfl) (by rfl) (by simp [Sc, sc_pl, sc_ds, pl_ne, ds_ne]) ?_
      refine WPL.fin T false tok (by rfl) (by exact byObl) ?_
      refine WP.cond (by rfl) (fun h => ?_) (fun h => WP.skip ?_)
      · cases h
      refine WP.rw ?_
      refine WPL.run T false 2 tok (by rfl) (by exact byObl) ?_
      refine WPL.call (rename_fn N b w p hD.le (hD.pb.lt16 hD.le) (hD.pw.lt16 hD.le) (hP.lt16 hD.le)) (by rfl) (by rfl) (by rfl) (by simp [Sc, sc_pl, sc_ds, pl_ne, ds_ne]) ?_
      refine WPL.fin T false tok (by rfl) (by exact byObl) ?_
      rw [e]
      exact WP.ret (Ends.val (by rfl) (by exact byObl) (by rfl) (by exact sc_t2 (sc_ds _ _ _ _) trivial))

end Go.Proofs.Ytakapfgjdhliaaa

/- Drawn regions: calls that turn roots and whose result is told by a property. -/
namespace Go.Proofs.Ytakapfgjdhliaaa.DM
open Go.RowKit
set_option linter.unusedVariables false
set_option linter.unusedSimpArgs false

section
variable {P : Program} {T : TyEnv} {N K : Nat} {Q : Exit → St → Prop} {ops : Array Oper} {n : Nat}

/-- An operation that may turn roots; G tells of its result and memory. -/
def TKE (P : Program) (o : Oper) (fr : Nat → Dat) (m : List Root) (G : Dat → List Root → Prop) : Prop :=
  ∀ (N : Nat) (ρ : Rho) (a : Act) (w : World), Frm m.length ρ N fr a.tmps → Rep ρ m w → ∀ (Kc : Act → World → Prop) (Q' : Exit → Act → World → Prop),
    (∀ ρ' u w' v m', G v m' → Holds m'.length ρ' v u → Rep ρ' m' w' → Tr ρ m w ρ' m' w' → Kc (a.put o.dst u) w') → o.wp P a w Kc Q'

theorem TKE.of {o : Oper} {fr : Nat → Dat} {m m' : List Root} {v : Dat} (h : TK P o fr m v m') : TKE P o fr m fun x y => x = v ∧ y = m' := by
  intro N ρ a w hf hr Kc Q' hK
  exact h N ρ a w hf hr Kc Q' fun ρ' u w' h1 h2 h3 => hK ρ' u w' v m' ⟨rfl, rfl⟩ h1 h2 h3

theorem TKE.call {dst : Tmp} {args : List Operand} {tys : Array TypeId} {t : TypeId} {pos : String} {after : Array Edge} {gg : Option (Nat × Bool)} {f : FuncId} {xs : List Dat} {fr : Nat → Dat} {m m0 : List Root} {Qf G : Dat → List Root → Prop} (ts : List Nat) (h : FnS P f xs m0 Qf)
    (hl : LeAll 0 m ts m0) (hk : sameKind m ts m0 = true) (hdi : distinct ts = true) (hx : ArgsR (tauOf ts) fr xs args) (hsc : ∀ x ∈ xs, Sc m0.length x)
    (hc : ∀ r m1, Qf r m1 → AllC0 m1 ∧ ∃ r', renD (invT ts m.length) r r' ∧ Sc (putBack m ts m0 m1).length r' ∧ G r' (putBack m ts m0 m1)) :
    TKE P { dst := some dst, op := .call { callee := .value (.func f), args := args.toArray, argTypes := tys }, type := t, pos := pos, after := after, guard := gg } fr m G := by
  intro N ρ a w hfr hrep Kc Q' hK
  obtain ⟨h1, h2⟩ := hx.eval hfr
  have h0 : a.eval (.func f) = .func (.func f) #[] #[] := rfl
  unfold Oper.wp
  rw [call_run rfl h0 (FnS.enter h)]
  simp only [Oper.upon]
  rw [show args.toArray.map a.eval = (xs.map (enc fun r => ρ (tauOf ts r))).toArray by rw [← h1]; simp]
  refine (FnS.calls h _ w (hrep.taken (Taken.view ts hl (by rw [hdi]; simp))) (fun x hx => ⟨hsc x hx, h2 x hx⟩)).mono ?_
  rintro e w' ⟨r, ρ1, m1', rfl, h3, h4, h5, h6, h7⟩
  obtain ⟨c1, r', c2, c3, c4⟩ := hc r m1' h7
  obtain ⟨g1, g2, g3⟩ := hrep.call ts hl (.inl hk) hdi h5 h6 c1.get
  refine hK _ _ w' r' _ c4 (.inr ⟨?_, c3, renD_ok' c2 h4⟩) g1 g2
  rw [renD_enc c2]
  exact (enc_congr (n := m1'.length) (fun j hj => g3 j hj) r h3).symm

/-- One of those that may come up now; one of the tail may turn what stands; G tells of its result. -/
def WAE2 (P : Program) (N K : Nat) (ops : Array Oper) (Q : Exit → St → Prop) (n fuel : Nat) (listed : Array Bool) (fr : Nat → Dat) (m : List Root) (i : Nat) : Prop :=
  ∃ o G, ops[i]? = some o ∧ gd ops o fr = some true ∧ dstOK N o.dst = true ∧ (MKE P o fr m G ∨ (n ≤ i ∧ TKE P o fr m G)) ∧ ∀ v m', G v m' → WA P N K ops Q n fuel (listed.setIfInBounds i true) ⟨putO fr o.dst v, m'⟩

theorem WA.allTE {fuel : Nat} {listed : Array Bool} {fr : Nat → Dat} {m : List Root} (rs : List Nat) (hr : Region.ready .any ops listed = rs) (hne : rs ≠ []) (h : ∀ i ∈ rs, WAE2 P N K ops Q n fuel listed fr m i) : WA P N K ops Q n (fuel + 1) listed ⟨fr, m⟩ := by
  intro hns hclo ρ a w ⟨hfr, hdf, hrep, hK⟩
  refine ⟨fun h0 => absurd (hr ▸ h0) hne, fun i hi => ?_⟩
  obtain ⟨o, G, ho, hg, hd, hmk, k⟩ := h i (hr ▸ hi)
  unfold wpOp
  simp only [ho]
  rw [if_pos (gd_wanted hg hfr)]
  have go : ∀ ρ' u w' v m', G v m' → Holds m'.length ρ' v u → Rep ρ' m' w' → Tr ρ m w ρ' m' w' → wpAnyS P ops (PostA N K ρ ⟨fr, m⟩ w Q) n fuel (listed.setIfInBounds i true) (a.put o.dst u) w' := fun ρ' u w' v m' hG hu hr' htr => by
    have hreg' := k v m' hG hns (hclo.ready hi) ρ' (a.put o.dst u) w' ⟨(hfr.tr htr).putO hd hu, by rw [put_defers]; exact hdf, hr', Nat.le_trans hK htr.len⟩
    exact wpAnyS_mono (PostA.tr (s := ⟨fr, m⟩) (s1 := ⟨putO fr o.dst v, m'⟩) (htr.toK hK)) _ _ _ _ hreg'
  rcases hmk with hmk | ⟨hn, hmk⟩
  · exact .inl (hmk N ρ a w hfr hrep _ _ fun ρ' u w' v m' hG hu hr' htr hb => ⟨fun _ => hb, go ρ' u w' v m' hG hu hr' htr⟩)
  · exact .inl (hmk N ρ a w hfr hrep _ _ fun ρ' u w' v m' hG hu hr' htr => ⟨fun h => absurd h (Nat.not_lt.2 hn), go ρ' u w' v m' hG hu hr' htr⟩)

theorem WA.allTE1 {fuel : Nat} {listed : Array Bool} {fr : Nat → Dat} {m : List Root} (i : Nat) (hr : Region.ready .any ops listed = [i]) (h : WAE2 P N K ops Q n fuel listed fr m i) : WA P N K ops Q n (fuel + 1) listed ⟨fr, m⟩ :=
  WA.allTE [i] hr (by simp) fun j hj => by rw [List.mem_singleton.1 hj]; exact h
theorem WA.allTE2 {fuel : Nat} {listed : Array Bool} {fr : Nat → Dat} {m : List Root} (i j : Nat) (hr : Region.ready .any ops listed = [i, j]) (h : WAE2 P N K ops Q n fuel listed fr m i) (h2 : WAE2 P N K ops Q n fuel listed fr m j) : WA P N K ops Q n (fuel + 1) listed ⟨fr, m⟩ :=
  WA.allTE [i, j] hr (by simp) fun k hk => by
    rcases List.mem_cons.1 hk with rfl | hk
    · exact h
    · rw [List.mem_singleton.1 hk]; exact h2
theorem WA.allTE3 {fuel : Nat} {listed : Array Bool} {fr : Nat → Dat} {m : List Root} (i j l : Nat) (hr : Region.ready .any ops listed = [i, j, l]) (h : WAE2 P N K ops Q n fuel listed fr m i) (h2 : WAE2 P N K ops Q n fuel listed fr m j) (h3 : WAE2 P N K ops Q n fuel listed fr m l) : WA P N K ops Q n (fuel + 1) listed ⟨fr, m⟩ :=
  WA.allTE [i, j, l] hr (by simp) fun k hk => by
    rcases List.mem_cons.1 hk with rfl | hk
    · exact h
    · rcases List.mem_cons.1 hk with rfl | hk
      · exact h2
      · rw [List.mem_singleton.1 hk]; exact h3
theorem WAE2.q (hT : TOK P T) {fuel i : Nat} {listed : Array Bool} {fr : Nat → Dat} {m m' : List Root} {o : Oper} {v : Dat} {ps : List Prop} (ho : ops[i]? = some o) (hq : isQ o.op = true) (h : evalOp T false o.op fr m = some (ps, v, m')) (hg : gd ops o fr = some true) (hd : dstOK N o.dst = true) (hp : AllP ps)
    (k : WA P N K ops Q n fuel (listed.setIfInBounds i true) ⟨putO fr o.dst v, m'⟩) : WAE2 P N K ops Q n fuel listed fr m i :=
  ⟨o, _, ho, hg, hd, .inl (MKE.of (MK.q (evalOp_q hT hq h hp))), fun _ _ ⟨e1, e2⟩ => by subst e1; subst e2; exact k⟩
theorem WAE2.t (hT : TOK P T) {fuel i : Nat} {listed : Array Bool} {fr : Nat → Dat} {m m' : List Root} {o : Oper} {v : Dat} {ps : List Prop} (hn : n ≤ i) (ho : ops[i]? = some o) (h : evalOp T false o.op fr m = some (ps, v, m')) (hg : gd ops o fr = some true) (hd : dstOK N o.dst = true) (hp : AllP ps)
    (k : WA P N K ops Q n fuel (listed.setIfInBounds i true) ⟨putO fr o.dst v, m'⟩) : WAE2 P N K ops Q n fuel listed fr m i :=
  ⟨o, _, ho, hg, hd, .inr ⟨hn, TKE.of (TK.of hT h hp)⟩, fun _ _ ⟨e1, e2⟩ => by subst e1; subst e2; exact k⟩
end
end Go.Proofs.Ytakapfgjdhliaaa.DM
