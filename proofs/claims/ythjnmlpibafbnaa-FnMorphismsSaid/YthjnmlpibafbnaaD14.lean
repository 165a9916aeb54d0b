import Derived.Test.YthjnmlpibafbnaaD13
import Derived.StillTail
namespace Go.Proofs.Ythjnmlpibafbnaa.DM
open Go.RowKit
set_option linter.unusedSimpArgs false
def idxT (t j : Nat) (l : List Oper) : Option Nat := match l with
  | [] => none
  | o :: l => match o.dst with
    | some d => bif Nat.beq d t then some j else idxT t (j + 1) l
    | none => idxT t (j + 1) l
def nthO (l : List Dat) (j : Nat) : Dat := match l, j with
  | [], _ => .un
  | x :: _, 0 => x
  | _ :: l, j + 1 => nthO l j
def ovl (L : List Oper) (vs : List Dat) (inc : Nat → Bool) (fr0 : Nat → Dat) (t : Nat) : Dat := match idxT t 0 L with
  | some j => bif inc j then nthO vs j else .un
  | none => fr0 t
def depsL (l : List Edge) : List Nat := match l with
  | [] => []
  | e :: l => bif Region.binds .any e then e.on :: depsL l else depsL l
def depsOf (o : Oper) : List Nat := depsL o.after.toList
theorem depsL_mem : ∀ {l : List Edge} {j : Nat}, memN (depsL l) j = true → ∃ e ∈ l, Region.binds .any e = true ∧ e.on = j
  | [], j, h => by simp [depsL, memN] at h
  | e :: l, j, h => by
    simp only [depsL] at h
    cases hb : Region.binds .any e with
    | true =>
      rw [hb] at h
      simp only [cond_true, memN] at h
      cases hj : Nat.beq e.on j with
      | true => exact ⟨e, by simp, hb, Nat.eq_of_beq_eq_true hj⟩
      | false =>
        rw [hj] at h
        obtain ⟨e', h1, h2⟩ := depsL_mem h
        exact ⟨e', by simp [h1], h2⟩
    | false =>
      rw [hb] at h
      obtain ⟨e', h1, h2⟩ := depsL_mem h
      exact ⟨e', by simp [h1], h2⟩
def headOK (N : Nat) (L : List Oper) (l : List Oper) (j : Nat) : Bool := match l with
  | [] => true
  | o :: l => (match o.dst with
    | some d => Nat.blt d N && (match idxT d 0 L with
      | some i => Nat.beq i j
      | none => false)
    | none => true) && (o.after.toList.all fun e => !Region.binds .any e || Nat.blt e.on j) && headOK N L l (j + 1)
theorem headOK_get {N : Nat} {L : List Oper} : ∀ {l : List Oper} {j : Nat}, headOK N L l j = true → ∀ {i : Nat} {o : Oper}, l[i]? = some o → (∀ d, o.dst = some d → d < N ∧ idxT d 0 L = some (j + i)) ∧ ∀ e ∈ o.after.toList, Region.binds .any e = true → e.on < j + i
  | [], j, _, i, o, h => by simp at h
  | x :: l, j, hk, i, o, h => by
    simp only [headOK, Bool.and_eq_true] at hk
    obtain ⟨⟨h1, h2⟩, h3⟩ := hk
    cases i with
    | zero =>
      simp only [List.getElem?_cons_zero, Option.some.injEq] at h
      subst h
      constructor
      · intro d hd
        rw [hd] at h1
        simp only [Bool.and_eq_true] at h1
        obtain ⟨h4, h5⟩ := h1
        split at h5
        · rename_i i' hi'
          exact ⟨by rw [Nat.blt_eq] at h4; exact h4, by rw [hi', Nat.eq_of_beq_eq_true h5]; rfl⟩
        · cases h5
      · intro e he hb
        have := List.all_eq_true.1 h2 e he
        simp only [Bool.or_eq_true, Bool.not_eq_true', hb, Bool.true_eq_false, false_or, Nat.blt_eq] at this
        omega
    | succ i =>
      obtain ⟨g1, g4⟩ := headOK_get h3 (i := i) (o := o) (by simpa using h)
      exact ⟨fun d hd => ⟨(g1 d hd).1, by rw [(g1 d hd).2]; congr 1; omega⟩, fun e he hb => by have := g4 e he hb; omega⟩
theorem idxT_lt {t : Nat} : ∀ {l : List Oper} {j i : Nat}, idxT t j l = some i → i < j + l.length
  | [], j, i, h => by simp [idxT] at h
  | o :: l, j, i, h => by
    simp only [idxT] at h
    split at h
    · rw [cond_eq_ite] at h
      split at h
      · simp only [Option.some.injEq] at h; subst h; simp
      · have := idxT_lt h; simp only [List.length_cons]; omega
    · have := idxT_lt h; simp only [List.length_cons]; omega
inductive KD where
  | qt
  | al (z : Dat)
  | st (a : Nat) (v : Dat)
def cntA : List KD → Nat → Nat
  | [], _ => 0
  | _, 0 => 0
  | .al _ :: l, j + 1 => cntA l j + 1
  | .qt :: l, j + 1 => cntA l j
  | .st _ _ :: l, j + 1 => cntA l j
def rootsG (g : Nat → Root) (j : Nat) : List KD → List Root
  | [] => []
  | .al _ :: l => g j :: rootsG g (j + 1) l
  | .qt :: l => rootsG g (j + 1) l
  | .st _ _ :: l => rootsG g (j + 1) l
def contA (inc : Nat → Bool) (a : Nat) (z : Dat) (j : Nat) : List KD → Dat
  | [] => z
  | .st a' v :: l => bif Nat.beq a' a && inc j then v else contA inc a z (j + 1) l
  | .al _ :: l => contA inc a z (j + 1) l
  | .qt :: l => contA inc a z (j + 1) l
def zOf (kd : List KD) (a : Nat) : Dat := match kd, a with
  | .al z :: _, 0 => z
  | _ :: l, a + 1 => zOf l a
  | _, _ => .un
def gInc (inc : Nat → Bool) (kd : List KD) (a : Nat) : Root := bif inc a then .var (contA inc a (zOf kd a) 0 kd) else .dead
def rootsA (inc : Nat → Bool) (kd : List KD) : List Root := rootsG (gInc inc kd) 0 kd
def allocs (kd : List KD) : List Root := rootsG (fun a => .var (contA (fun _ => true) a (zOf kd a) 0 kd)) 0 kd
theorem rootsG_len {g g' : Nat → Root} : ∀ {l : List KD} {j : Nat}, (rootsG g j l).length = (rootsG g' j l).length
  | [], j => rfl
  | .qt :: l, j => rootsG_len (l := l)
  | .st _ _ :: l, j => rootsG_len (l := l)
  | .al z :: l, j => by simp only [rootsG, List.length_cons]; rw [rootsG_len (l := l)]
theorem rootsG_get {g : Nat → Root} : ∀ {l : List KD} {j i : Nat} {z : Dat}, l[i]? = some (.al z) → (rootsG g j l)[cntA l i]? = some (g (j + i))
  | [], j, i, z, h => by simp at h
  | x :: l, j, 0, z, h => by
    simp only [List.getElem?_cons_zero, Option.some.injEq] at h
    subst h
    simp [rootsG, cntA]
  | x :: l, j, i + 1, z, h => by
    have h' : l[i]? = some (.al z) := by simpa using h
    have := rootsG_get (g := g) (j := j + 1) h'
    rw [show j + 1 + i = j + (i + 1) by omega] at this
    cases x <;> simp only [rootsG, cntA, List.getElem?_cons_succ] <;> exact this
theorem rootsG_same {g g' : Nat → Root} : ∀ {l : List KD} {j : Nat}, (∀ i z, l[i]? = some (.al z) → g' (j + i) = g (j + i)) → rootsG g' j l = rootsG g j l
  | [], j, _ => rfl
  | x :: l, j, h => by
    have ih := rootsG_same (g := g) (g' := g') (l := l) (j := j + 1) fun i z hz => by
      have := h (i + 1) z (by simpa using hz)
      rwa [show j + (i + 1) = j + 1 + i by omega] at this
    cases x with
    | al y => simp only [rootsG]; rw [ih, show g' j = g j from h 0 y (by simp)]
    | qt => exact ih
    | st a v => exact ih
theorem rootsG_set {g g' : Nat → Root} {k : Nat} : ∀ {l : List KD} {j i : Nat} {z : Dat}, l[i]? = some (.al z) → j + i = k → (∀ i' z', l[i']? = some (.al z') → j + i' ≠ k → g' (j + i') = g (j + i')) → rootsG g' j l = (rootsG g j l).set (cntA l i) (g' k)
  | [], j, i, z, h, _, _ => by simp at h
  | x :: l, j, 0, z, h, e, hg => by
    simp only [List.getElem?_cons_zero, Option.some.injEq] at h
    subst h
    have e : j = k := by simpa using e
    subst e
    simp only [rootsG, cntA, List.set_cons_zero]
    rw [rootsG_same (g := g) (g' := g') (l := l) (j := j + 1) fun i z hz => by
      have := hg (i + 1) z (by simpa using hz) (by omega)
      rwa [show j + (i + 1) = j + 1 + i by omega] at this]
  | x :: l, j, i + 1, z, h, e, hg => by
    have h' : l[i]? = some (.al z) := by simpa using h
    have ih := rootsG_set (g := g) (g' := g') h' (show j + 1 + i = k by omega) fun i' z' hz hne => by
      have := hg (i' + 1) z' (by simpa using hz) (by omega)
      rwa [show j + (i' + 1) = j + 1 + i' by omega] at this
    cases x with
    | al y =>
      simp only [rootsG, cntA, List.set_cons_succ]
      rw [ih, show g' j = g j from hg 0 y (by simp) (by omega)]
    | qt => simp only [rootsG, cntA]; exact ih
    | st a v => simp only [rootsG, cntA]; exact ih
theorem rootsG_mem {g : Nat → Root} : ∀ {l : List KD} {j i : Nat} {R : Root}, (rootsG g j l)[i]? = some R → ∃ a z, l[a]? = some (.al z) ∧ R = g (j + a)
  | [], j, i, R, h => by simp [rootsG] at h
  | x :: l, j, i, R, h => by
    have up : (∃ a z, l[a]? = some (.al z) ∧ R = g (j + 1 + a)) → ∃ a z, (x :: l)[a]? = some (.al z) ∧ R = g (j + a) := by
      rintro ⟨a, z, h1, h2⟩
      exact ⟨a + 1, z, by simpa using h1, by rw [h2]; congr 1; omega⟩
    cases x with
    | al y =>
      simp only [rootsG] at h
      cases i with
      | zero => simp only [List.getElem?_cons_zero, Option.some.injEq] at h; exact ⟨0, y, by simp, h.symm⟩
      | succ i => exact up (rootsG_mem (by simpa using h))
    | qt => exact up (rootsG_mem h)
    | st a v => exact up (rootsG_mem h)
theorem zOf_get : ∀ {l : List KD} {a : Nat} {z : Dat}, l[a]? = some (.al z) → zOf l a = z
  | [], a, z, h => by simp at h
  | x :: l, 0, z, h => by
    simp only [List.getElem?_cons_zero, Option.some.injEq] at h
    subst h; rfl
  | x :: l, a + 1, z, h => by
    have := zOf_get (l := l) (a := a) (z := z) (by simpa using h)
    cases x <;> simpa only [zOf] using this
theorem contA_cases {inc : Nat → Bool} {a : Nat} {z : Dat} : ∀ {l : List KD} {j : Nat}, contA inc a z j l = z ∨ ∃ i v, l[i]? = some (.st a v) ∧ inc (j + i) = true ∧ contA inc a z j l = v
  | [], j => .inl rfl
  | x :: l, j => by
    have up : contA inc a z (j + 1) l = z ∨ (∃ i v, l[i]? = some (.st a v) ∧ inc (j + 1 + i) = true ∧ contA inc a z (j + 1) l = v) → contA inc a z (j + 1) l = z ∨ ∃ i v, (x :: l)[i]? = some (.st a v) ∧ inc (j + i) = true ∧ contA inc a z (j + 1) l = v := by
      rintro (h | ⟨i, v, h1, h2, h3⟩)
      · exact .inl h
      · exact .inr ⟨i + 1, v, by simpa using h1, by rwa [show j + (i + 1) = j + 1 + i by omega], h3⟩
    cases x with
    | al y => exact up contA_cases
    | qt => exact up contA_cases
    | st a' v =>
      simp only [contA]
      cases hb : (Nat.beq a' a && inc j) with
      | true =>
        simp only [Bool.and_eq_true] at hb
        have := Nat.eq_of_beq_eq_true hb.1
        subst this
        exact .inr ⟨0, v, by simp, hb.2, rfl⟩
      | false => exact up contA_cases
theorem contA_none {inc : Nat → Bool} {a : Nat} {z : Dat} {l : List KD} {j : Nat} (h : ∀ i v, l[i]? = some (.st a v) → inc (j + i) = false) : contA inc a z j l = z := by
  rcases contA_cases (inc := inc) (a := a) (z := z) (l := l) (j := j) with h1 | ⟨i, v, h1, h2, _⟩
  · exact h1
  · rw [h i v h1] at h2; cases h2
theorem contA_only {inc : Nat → Bool} {a : Nat} {z : Dat} : ∀ {l : List KD} {j i : Nat} {v : Dat}, l[i]? = some (.st a v) → (∀ i' v', l[i']? = some (.st a v') → i' = i) → inc (j + i) = true → contA inc a z j l = v
  | [], j, i, v, h, _, _ => by simp at h
  | x :: l, j, 0, v, h, _, hi => by
    simp only [List.getElem?_cons_zero, Option.some.injEq] at h
    subst h
    simp only [contA, show Nat.beq a a = true from Nat.beq_refl a, show inc j = true from hi, Bool.and_self, cond_true]
  | x :: l, j, i + 1, v, h, hu, hi => by
    have ih := contA_only (inc := inc) (a := a) (z := z) (l := l) (j := j + 1) (i := i) (v := v) (by simpa using h) (fun i' v' h' => by have := hu (i' + 1) v' (by simpa using h'); omega) (by rwa [show j + 1 + i = j + (i + 1) by omega])
    cases x with
    | al y => exact ih
    | qt => exact ih
    | st a' w =>
      simp only [contA]
      cases hb : Nat.beq a' a with
      | true =>
        have := Nat.eq_of_beq_eq_true hb
        subst this
        have := hu 0 w (by simp)
        omega
      | false => exact ih
theorem contA_congr {inc inc' : Nat → Bool} {a : Nat} {z : Dat} : ∀ {l : List KD} {j : Nat}, (∀ i v, l[i]? = some (.st a v) → inc' (j + i) = inc (j + i)) → contA inc' a z j l = contA inc a z j l
  | [], j, _ => rfl
  | x :: l, j, h => by
    have ih := contA_congr (inc := inc) (inc' := inc') (a := a) (z := z) (l := l) (j := j + 1) fun i v hv => by
      have := h (i + 1) v (by simpa using hv)
      rwa [show j + (i + 1) = j + 1 + i by omega] at this
    cases x with
    | al y => exact ih
    | qt => exact ih
    | st a' w =>
      simp only [contA, ih]
      cases hb : Nat.beq a' a with
      | true =>
        have e := Nat.eq_of_beq_eq_true hb
        subst e
        rw [show inc' j = inc j from h 0 w (by simp)]
      | false => rfl
section
variable {P : Program} {N K : Nat} {Q : Exit → St → Prop}
theorem Rep.newVarAt {ρ : Rho} {m : List Root} {w : World} (h : Rep ρ m w) (k : Nat) (hc : ∀ (j : Nat) (R : Root) (d : Dat), m[j]? = some R → R.con = some d → Sc k d) {r : Nat} (hr : r < m.length) (hd : m[r]? = some .dead) (hk : k ≤ r) (d : Dat) (t : TypeId) (hp : Pl d) (hw : WF d) (hs : Sc 0 d) :
    ∃ ρ', (∀ x, x < m.length → x ≠ r → ρ' x = ρ x) ∧ (ρ' r []).b = w.heap.size ∧ (ρ' r []).o = 0 ∧ Rep ρ' (m.set r (.var d)) (w.alloc (.cells (cells ρ noA d).toArray t)) ∧ TrK k ρ m w ρ' (m.set r (.var d)) (w.alloc (.cells (cells ρ noA d).toArray t)) := by
  obtain ⟨h1, h2⟩ := h.newVar d t hp hw (hs.mono (Nat.zero_le _))
  let τ : Nat → Nat := fun x => if x = r then m.length else x
  have ht : Taken τ k (m ++ [.var d]) (m.set r (.var d)) := by
    refine ⟨fun j R hj => ?_, fun i j R R' hi hj hm hd' e => ?_, fun x hx => ?_, by simp; omega⟩
    · rcases set_get hj with ⟨rfl, rfl, _⟩ | ⟨hne, hj'⟩
      · refine .inr ⟨.var d, by simp [τ], Root.Le.refl _, fun d' hd' => ?_⟩
        cases hd'; exact hs.mono (Nat.zero_le _)
      · refine .inr ⟨R, ?_, Root.Le.refl _, fun d' hd' => hc j R d' hj' hd'⟩
        simp only [τ, if_neg hne]
        rw [List.getElem?_append_left (List.getElem?_eq_some_iff.1 hj').1]; exact hj'
    · have hi' : i < m.length := by have := (List.getElem?_eq_some_iff.1 hi).1; simpa using this
      have hj' : j < m.length := by have := (List.getElem?_eq_some_iff.1 hj).1; simpa using this
      simp only [τ] at e
      split at e <;> split at e <;> omega
    · simp only [τ]; rw [if_neg (by omega)]
  refine ⟨fun x => (ext ρ m.length (fun _ => ⟨false, w.heap.size, 0, 0, none, 0⟩)) (τ x), fun x hx hne => ?_, ?_, ?_, h1.taken ht, ?_⟩
  · simp only [τ, if_neg hne]; exact ext_ne ρ _ (by omega)
  · simp only [τ, if_pos rfl, ext_same]
  · simp only [τ, if_pos rfl, ext_same]
  · refine (h2.toK (by omega)).trans ⟨rfl, rfl, Nat.le_refl _, rfl, Nat.le_refl _, fun x hx => by simp only [ht.fix x hx], fun _ _ _ => rfl, fun x R q h1 h2 h3 => .inr ?_, fun x R q h1 h2 h3 => .inr ?_⟩
    · rcases ht.get x R h1 with rfl | ⟨R0, h4, h5, _⟩
      · cases h2
      · exact ⟨_, R0, q, h4, h5.mine h2, h5.atO h3, rfl⟩
    · rcases ht.get x R h1 with rfl | ⟨R0, h4, h5, _⟩
      · exact absurd rfl h2.ne
      · exact ⟨_, R0, q, h4, h5.at h2, h3, rfl⟩
def QC (P : Program) (o : Oper) (fr : Nat → Dat) (m : List Root) (v : Dat) : Prop :=
  ∀ (N : Nat) (ρ : Rho) (a : Act) (w : World), Frm m.length ρ N fr a.tmps → Rep ρ m w → ∀ (Kc : Act → World → Prop) (Q' : Exit → Act → World → Prop), (∀ u w', Holds m.length ρ v u → BelowD w.heap.size w w' → Kc (a.put o.dst u) w') → o.wp P a w Kc Q'
theorem QC.of_q {o : Oper} {fr : Nat → Dat} {m m' : List Root} {v : Dat} (h : QOK P o fr m v m') (hv : Sc m.length v) : QC P o fr m v := by
  intro N ρ a w hf hr Kc Q' hK
  obtain ⟨u, ρ', h1, _, h2⟩ := h N ρ a hf
  obtain ⟨g1, g2, g3, g4⟩ := h2 w hr
  unfold Oper.wp
  rw [g1]
  refine hK u w ?_ ⟨rfl, rfl, Nat.le_refl _, rfl, Nat.le_refl _, fun _ _ => rfl⟩
  rcases g2 with g2 | ⟨g5, g6, g7⟩
  · exact .inl g2
  · exact .inr ⟨by rw [g5, enc_congr h1 v hv], hv, g7⟩
theorem QC.call {dst : Tmp} {args : List Operand} {tys : Array TypeId} {t : TypeId} {pos : String} {after : Array Edge} {gg : Option (Nat × Bool)} {f : FuncId} {xs : List Dat} {r : Dat} {fr : Nat → Dat} {m m0 : List Root} (ts : List Nat) (h : FnR P f xs m0 r) (hn : noMine m0 = true)
    (hl : LeAll 0 m ts m0) (hx : ArgsR (tauOf ts) fr xs args) (hsc : ∀ x ∈ xs, Sc m0.length x) :
    QC P { dst := some dst, op := .call { callee := .value (.func f), args := args.toArray, argTypes := tys }, type := t, pos := pos, after := after, guard := gg } fr m r := by
  intro N ρ a w hfr hr Kc Q' hK
  obtain ⟨h1, h2⟩ := hx.eval hfr
  have h0 : a.eval (.func f) = .func (.func f) #[] #[] := rfl
  unfold Oper.wp
  rw [call_run rfl h0 (FnS.enter h)]
  simp only [Oper.upon]
  rw [show args.toArray.map a.eval = (xs.map (enc fun r => ρ (tauOf ts r))).toArray by rw [← h1]; simp]
  refine (h.calls hn (hr.taken (Taken.view ts hl (by rw [hn]; rfl))) (fun x hx => ⟨hsc x hx, h2 x hx⟩) ρ).mono ?_
  rintro e w' ⟨rfl, h3, h4, h5⟩
  exact hK _ _ (.inr ⟨rfl, h3.mono (Nat.zero_le _), h4⟩) h5
structure HH (P : Program) (T : TyEnv) (ops : Array Oper) (L : List Oper) (na : Nat) (fr0 : Nat → Dat) (m0 : List Root) (vs : List Dat) (kd : List KD) : Prop where
  len : kd.length = vs.length
  each : ∀ j o v q, L[j]? = some o → vs[j]? = some v → kd[j]? = some q →
    (q = .qt ∧ ((gd ops o (ovl L (vs.take j) (memN (depsOf o)) fr0) = some true ∧ QC P o (ovl L (vs.take j) (memN (depsOf o)) fr0) (m0 ++ List.replicate na .dead) v ∧ Sc m0.length v) ∨ (gd ops o (ovl L (vs.take j) (memN (depsOf o)) fr0) = some false ∧ v = .un))) ∨
    (∃ t i, q = .al i.z ∧ o.op = .alloc t ∧ o.guard = none ∧ T t = some i ∧ v = .p (m0.length + cntA kd j) [] 0) ∨
    (∃ t x y i a u z, q = .st a u ∧ o.op = .store t x y ∧ o.guard = none ∧ o.dst = none ∧ T t = some i ∧ fit i u = true ∧ kd[a]? = some (.al z) ∧ fit i z = true ∧ memN (depsOf o) a = true ∧ ev (ovl L (vs.take j) (memN (depsOf o)) fr0) x = .p (m0.length + cntA kd a) [] 0 ∧
      ev (ovl L (vs.take j) (memN (depsOf o)) fr0) y = u ∧ Sc m0.length u ∧ ∀ j', j' < j → ∀ w, kd[j']? ≠ some (.st a w))
def putAll (fr : Nat → Dat) : List Oper → List Dat → Nat → Dat
  | o :: l, v :: vs => putAll (putO fr o.dst v) l vs
  | _, _ => fr
theorem nthO_get : ∀ {l : List Dat} {j : Nat} {v : Dat}, l[j]? = some v → nthO l j = v
  | [], j, v, h => by simp at h
  | x :: l, 0, v, h => by simpa [nthO] using h
  | x :: l, j + 1, v, h => by simp only [nthO]; exact nthO_get (by simpa using h)
theorem nthO_none : ∀ {l : List Dat} {j : Nat}, l.length ≤ j → nthO l j = .un
  | [], j, _ => by simp [nthO]
  | x :: l, 0, h => by simp at h
  | x :: l, j + 1, h => by simp only [nthO]; exact nthO_none (by simpa using h)
theorem idxT_dst {t : Nat} : ∀ {l : List Oper} {j i : Nat}, idxT t j l = some i → j ≤ i ∧ ∃ o, l[i - j]? = some o ∧ o.dst = some t
  | [], j, i, h => by simp [idxT] at h
  | x :: l, j, i, h => by
    simp only [idxT] at h
    have next : idxT t (j + 1) l = some i → j ≤ i ∧ ∃ o, (x :: l)[i - j]? = some o ∧ o.dst = some t := by
      intro h
      obtain ⟨h1, o, h2, h3⟩ := idxT_dst h
      exact ⟨by omega, o, by rw [show i - j = (i - (j + 1)) + 1 by omega]; simpa using h2, h3⟩
    split at h
    · rename_i d hd
      cases hb : Nat.beq d t with
      | true =>
        rw [hb] at h
        simp only [cond_true, Option.some.injEq] at h
        subst h
        exact ⟨Nat.le_refl _, x, by simp, by rw [hd, Nat.eq_of_beq_eq_true hb]⟩
      | false => rw [hb] at h; exact next h
    · exact next h
theorem putAll_eq {L : List Oper} {N : Nat} : ∀ {l : List Oper} {vs : List Dat} {fr : Nat → Dat} {j : Nat}, headOK N L l j = true → l.length = vs.length → ∀ t, putAll fr l vs t = match idxT t j l with
    | some i => nthO vs (i - j)
    | none => fr t
  | [], [], fr, j, _, _, t => by simp [putAll, idxT]
  | [], _ :: _, fr, j, _, h, t => by simp at h
  | _ :: _, [], fr, j, _, h, t => by simp at h
  | o :: l, v :: vs, fr, j, hk, hl, t => by
    obtain ⟨hdst, _⟩ := headOK_get hk (i := 0) (o := o) (by simp)
    have hk' : headOK N L l (j + 1) = true := by simp only [headOK, Bool.and_eq_true] at hk; exact hk.2
    have step : ∀ i, idxT t (j + 1) l = some i → nthO vs (i - (j + 1)) = nthO (v :: vs) (i - j) := by
      intro i hi
      have := (idxT_dst hi).1
      rw [show i - j = (i - (j + 1)) + 1 by omega]
      rfl
    simp only [putAll]
    rw [putAll_eq hk' (by simpa using hl) t]
    cases hd : o.dst with
    | none =>
      simp only [idxT, hd, putO]
      cases hi : idxT t (j + 1) l with
      | none => rfl
      | some i => exact step i hi
    | some d =>
      simp only [idxT, hd, putO]
      cases hb : Nat.beq d t with
      | true =>
        have e := Nat.eq_of_beq_eq_true hb
        subst e
        have : idxT d (j + 1) l = none := by
          cases hi : idxT d (j + 1) l with
          | none => rfl
          | some i =>
            exfalso
            obtain ⟨h1, o', h2, h3⟩ := idxT_dst hi
            have h4 := ((headOK_get hk' h2).1 d h3).2
            rw [(hdst d hd).2] at h4
            simp only [Option.some.injEq] at h4
            omega
        simp only [this, cond_true, fup_same, Nat.sub_self, nthO]
      | false =>
        simp only [cond_false]
        cases hi : idxT t (j + 1) l with
        | none =>
          rw [fup_ne _ _ (fun e => by subst e; rw [show Nat.beq t t = true from Nat.beq_refl t] at hb; cases hb)]
        | some i => exact step i hi
theorem cntA_inj : ∀ {l : List KD} {i j : Nat} {x y : Dat}, l[i]? = some (.al x) → l[j]? = some (.al y) → cntA l i = cntA l j → i = j
  | [], i, j, x, y, h, _, _ => by simp at h
  | a :: l, 0, 0, x, y, _, _, _ => rfl
  | a :: l, 0, j + 1, x, y, h, _, e => by
    simp only [List.getElem?_cons_zero, Option.some.injEq] at h
    subst h
    simp [cntA] at e
  | a :: l, i + 1, 0, x, y, _, h, e => by
    simp only [List.getElem?_cons_zero, Option.some.injEq] at h
    subst h
    simp [cntA] at e
  | a :: l, i + 1, j + 1, x, y, h, h', e => by
    congr 1
    refine cntA_inj (l := l) (by simpa using h) (by simpa using h') ?_
    cases a <;> simpa [cntA] using e
def cntU : Nat → (Nat → Bool) → Nat
  | 0, _ => 0
  | n + 1, f => cntU n f + (bif f n then 0 else 1)
theorem cntU_zero : ∀ {n : Nat} {f : Nat → Bool}, cntU n f = 0 → ∀ i, i < n → f i = true
  | 0, f, _, i, h => by omega
  | n + 1, f, h, i, hi => by
    simp only [cntU] at h
    by_cases e : i = n
    · subst e
      cases hf : f i with
      | true => rfl
      | false => rw [hf] at h; simp at h
    · exact cntU_zero (n := n) (by omega) i (by omega)
theorem cntU_pos : ∀ {n : Nat} {f : Nat → Bool}, cntU n f ≠ 0 → ∃ i, i < n ∧ f i = false
  | 0, f, h => absurd rfl h
  | n + 1, f, h => by
    cases hf : f n with
    | false => exact ⟨n, by omega, hf⟩
    | true =>
      simp only [cntU, hf, cond_true, Nat.add_zero] at h
      obtain ⟨i, h1, h2⟩ := cntU_pos h
      exact ⟨i, by omega, h2⟩
theorem cntU_set {i : Nat} {f g : Nat → Bool} (hf : f i = false) (hg : g i = true) (h : ∀ j, j ≠ i → g j = f j) : ∀ {n : Nat}, (i < n → cntU n f = cntU n g + 1) ∧ (n ≤ i → cntU n f = cntU n g)
  | 0 => ⟨fun h => by omega, fun _ => rfl⟩
  | n + 1 => by
    obtain ⟨h1, h2⟩ := cntU_set hf hg h (n := n)
    refine ⟨fun hi => ?_, fun hi => ?_⟩
    · by_cases e : i = n
      · subst e; simp only [cntU, hf, hg, h2 (Nat.le_refl _)]; rfl
      · simp only [cntU, h n (by omega), h1 (by omega)]; omega
    · simp only [cntU, h n (by omega), h2 (by omega)]
theorem ready_some {ops : Array Oper} {n : Nat} {listed : Array Bool} (inv : HeadInv .any ops n listed) (hn : n ≤ ops.size) (hb : ∀ i o, i < n → ops[i]? = some o → ∀ e ∈ o.after.toList, Region.binds .any e = true → e.on < i) : ∀ (i : Nat), i < n → listed.getD i false = false → ∃ j, j ∈ Region.ready .any ops listed := by
  intro i
  induction i using Nat.strongRecOn with
  | _ i ih =>
    intro hi hl
    have hlt : i < ops.size := by omega
    by_cases hall : ∀ e ∈ ops[i].after, Region.binds .any e = true → listed.getD e.on false = true
    · exact ⟨i, mem_ready.2 ⟨getD_in (by rw [inv.size]; exact hlt) hl, ops[i], Array.getElem?_eq_getElem hlt, hall⟩⟩
    · simp only [Classical.not_forall] at hall
      obtain ⟨e, he, hbn, hnl⟩ := hall
      have hlt' := hb i ops[i] hi (Array.getElem?_eq_getElem hlt) e (by simpa using he) hbn
      exact ih e.on hlt' (by omega) (by cases h : listed.getD e.on false with | true => exact absurd h hnl | false => rfl)
def WR (P : Program) (N K : Nat) (l : List Oper) (Q : Exit → St → Prop) (s : St) : Prop :=
  ∀ ρ a w, Rel N K ρ s a w → wpAny P .any l.toArray (Real N K ρ s w Q) l.length (Array.replicate l.length false) a ({ w with drawn := w.drawn + 1 } : World)
theorem WR.drawsT {T : TyEnv} (hT : TOK P T) {l : List Oper} (n na : Nat) {fr0 : Nat → Dat} {m0 : List Root} (vs : List Dat) (kd : List KD) (hn : Nat.ble n l.length = true) (hhead : headOK N (l.take n) (l.take n) 0 = true)
    (hs : (Nat.beq n l.length || (Region.sinkB .any l.toArray n && Region.chainB .any l.toArray n)) = true) (hseq : Region.seqB .any l.toArray (l.length - n) n ((List.replicate n true ++ List.replicate (l.length - n) false).toArray) = true)
    (hvs : vs.length = n) (hna : (allocs kd).length = na) (hh : HH P T l.toArray (l.take n) na fr0 m0 vs kd)
    (k : WPL P N K l.toArray Q (l.drop n) ⟨putAll fr0 (l.take n) vs, m0 ++ allocs kd⟩) : WR P N K l Q ⟨fr0, m0⟩ := by
  intro ρ0 a0 w0 ⟨hf0, hdf0, hr0, hK0⟩
  have hK0 : K ≤ m0.length := hK0
  have hn := Nat.le_of_ble_eq_true hn
  generalize hL : l.take n = L at *
  generalize hops : l.toArray = ops at *
  have hsz : ops.size = l.length := by rw [← hops]; simp
  have hLl : L.length = n := by rw [← hL]; simp; omega
  have hLo : ∀ {i : Nat}, i < n → L[i]? = ops[i]? := fun {i} hi => by rw [← hL, ← hops]; simp [hi]
  have hkl : kd.length = n := by rw [hh.len, hvs]
  have hback : ∀ i o, i < n → ops[i]? = some o → ∀ e ∈ o.after.toList, Region.binds .any e = true → e.on < i := by
    intro i o hi ho e he hb
    have := (headOK_get hhead (i := i) (o := o) (by rw [hLo hi]; exact ho)).2 e he hb
    omega
  have hwfz : ∀ (i : Nat) (z : Dat), kd[i]? = some (.al z) → i < n ∧ WF z ∧ Pl z ∧ Sc 0 z := by
    intro i z hz
    have hin : i < n := by have := (List.getElem?_eq_some_iff.1 hz).1; omega
    have hiv : i < vs.length := by omega
    have hil : i < L.length := by omega
    rcases hh.each i _ _ _ (List.getElem?_eq_getElem hil) (List.getElem?_eq_getElem hiv) hz with ⟨h, _⟩ | ⟨t, ti, h1, _, _, h4, _⟩ | ⟨_, _, _, _, _, _, _, h, _⟩
    · cases h
    · cases h1
      have := hT t ti h4
      exact ⟨hin, this.wf, this.pl, this.sc⟩
    · cases h
  have hst : ∀ (i a : Nat) (u : Dat), kd[i]? = some (.st a u) → ∃ o, i < n ∧ ops[i]? = some o ∧ memN (depsOf o) a = true ∧ Sc m0.length u ∧ ∀ j', j' < i → ∀ w, kd[j']? ≠ some (.st a w) := by
    intro i a u hz
    have hin : i < n := by have := (List.getElem?_eq_some_iff.1 hz).1; omega
    have hiv : i < vs.length := by omega
    have hil : i < L.length := by omega
    rcases hh.each i _ _ _ (List.getElem?_eq_getElem hil) (List.getElem?_eq_getElem hiv) hz with ⟨h, _⟩ | ⟨_, _, h, _⟩ | ⟨t, x, y, ti, a', u', z, h1, h2, h3, h4, h5, h6, h7, h8, h9, h10, h11, h12, h13⟩
    · cases h
    · cases h
    · cases h1
      exact ⟨L[i], hin, by rw [← hLo hin]; exact List.getElem?_eq_getElem hil, h9, h12, h13⟩
  have huniq : ∀ (i a : Nat) (u : Dat) (i' : Nat) (u' : Dat), kd[i]? = some (.st a u) → kd[i']? = some (.st a u') → i' = i := by
    intro i a u i' u' h1 h2
    obtain ⟨_, _, _, _, _, g1⟩ := hst i a u h1
    obtain ⟨_, _, _, _, _, g2⟩ := hst i' a u' h2
    rcases Nat.lt_trichotomy i i' with h | h | h
    · exact absurd h1 (g2 i h u)
    · exact h.symm
    · exact absurd h2 (g1 i' h u')
  let mm : (Nat → Bool) → List Root := fun inc => m0 ++ rootsA inc kd
  have hml : ∀ inc, (mm inc).length = m0.length + na := by
    intro inc
    simp only [mm, List.length_append]
    congr 1
    rw [← hna]
    exact rootsG_len
  have hsc : ∀ inc (j : Nat) (R : Root) (d : Dat), (mm inc)[j]? = some R → R.con = some d → Sc m0.length d := by
    intro inc j R d hj hd
    simp only [mm] at hj
    rw [List.getElem?_append] at hj
    split at hj
    · exact (hr0.wf j R d hj hd).2
    · obtain ⟨a, z, g1, rfl⟩ := rootsG_mem hj
      simp only [gInc] at hd
      rw [cond_eq_ite] at hd
      split at hd
      · cases hd
        rcases contA_cases (inc := inc) (a := 0 + a) (z := zOf kd (0 + a)) (l := kd) (j := 0) with h | ⟨i, v, h1, _, h3⟩
        · rw [h, Nat.zero_add, zOf_get g1]; exact (hwfz a z g1).2.2.2.mono (Nat.zero_le _)
        · rw [h3]
          obtain ⟨_, _, _, _, h, _⟩ := hst i _ v h1
          exact h
      · cases hd
  -- what a slot may hold
  let Sl : (Nat → Bool) → Dat → Prop := fun inc d => Sc m0.length d ∨ ∃ j z, inc j = true ∧ kd[j]? = some (.al z) ∧ d = .p (m0.length + cntA kd j) [] 0
  let Inv : Array Bool → Act → World → Prop := fun listed a w => HeadInv .any ops n listed ∧ ∃ ρ, Frm (m0.length + na) ρ N (ovl L vs (fun j => listed.getD j false) fr0) a.tmps ∧ (∀ t, Sl (fun j => listed.getD j false) (ovl L vs (fun j => listed.getD j false) fr0 t)) ∧ a.defers = [] ∧
    Rep ρ (mm fun j => listed.getD j false) w ∧ TrK K ρ0 m0 w0 ρ (mm fun j => listed.getD j false) w
  have main : ∀ c listed a w, cntU n (fun j => listed.getD j false) = c → Inv listed a w → wpAny P .any ops (Real N K ρ0 ⟨fr0, m0⟩ w0 Q) (c + (l.length - n)) listed a w := by
    intro c
    induction c with
    | zero =>
      intro listed a w hc ⟨hinv, ρ, hf, _, hdf, hr, htr⟩
      have hall := cntU_zero hc
      have hlist : listed = (List.replicate n true ++ List.replicate (l.length - n) false).toArray := by
        apply Array.ext
        · rw [hinv.size, hsz]; simp; omega
        · intro i h1 h2
          simp only [List.getElem_toArray]
          rw [List.getElem_append]
          split
          · rename_i hi
            have := hall i (by simpa using hi)
            simp only [Array.getD_eq_getD_getElem?, Array.getElem?_eq_getElem h1, Option.getD_some] at this
            rw [this]; simp
          · rename_i hi
            have := hinv.tail i (by simpa using hi) (by rw [← hinv.size]; exact h1)
            simp only [Array.getD_eq_getD_getElem?, Array.getElem?_eq_getElem h1, Option.getD_some] at this
            rw [this]; simp
      have hincall : ∀ i, i < n → (fun j => listed.getD j false) i = true := hall
      have hm' : mm (fun j => listed.getD j false) = m0 ++ allocs kd := by
        simp only [mm]
        congr 1
        refine rootsG_same fun i z hz => ?_
        simp only [gInc, Nat.zero_add]
        rw [hall i (hwfz i z hz).1]
        simp only [cond_true]
        congr 1
        refine contA_congr fun i' v hv => ?_
        rw [Nat.zero_add]
        exact hall i' (hst i' i v hv).choose_spec.1
      have hfin : ovl L vs (fun j => listed.getD j false) fr0 = putAll fr0 L vs := by
        funext t
        rw [putAll_eq hhead (by omega) t]
        unfold ovl
        cases hi : idxT t 0 L with
        | none => rfl
        | some i =>
          have := idxT_lt hi
          simp only [hall i (by omega), cond_true, Nat.sub_zero]
      rw [Nat.zero_add]
      have hdl : (l.drop n).length = l.length - n := by simp
      have hseq' : Region.seqB .any ops (l.drop n).length n listed = true := by rw [hdl, hlist]; exact hseq
      have := wpAny_of_seq (P := P) (md := .any) (ops := ops) (Q' := Real N K ρ0 ⟨fr0, m0⟩ w0 Q) (l.drop n) n listed a w (fun j => by rw [← hops]; simp [List.getElem?_drop]) hseq' ?_
      · rwa [hdl] at this
      · rw [hm'] at hr htr
        refine wpList_mono (fun e a w q => ?_) _ _ _ (k ρ a w ⟨by rw [← hfin]; have hl0 := hml (fun j => listed.getD j false); rw [hm'] at hl0; rw [hl0]; exact hf, hdf, hr, by rw [List.length_append]; exact Nat.le_trans hK0 (Nat.le_add_right _ _)⟩)
        exact Real.tr (s := ⟨fr0, m0⟩) (s1 := ⟨putAll fr0 L vs, m0 ++ allocs kd⟩) htr q
    | succ c ih =>
      intro listed a w hc ⟨hinv, ρ, hf, hsl, hdf, hr, htr⟩
      rw [show c + 1 + (l.length - n) = (c + (l.length - n)) + 1 by omega]
      obtain ⟨i0, hi0, hl0⟩ := cntU_pos (n := n) (f := fun j => listed.getD j false) (by omega)
      refine ⟨fun h0 => ?_, fun i hi => ?_⟩
      · obtain ⟨j, hj⟩ := ready_some hinv (by omega) hback i0 hi0 hl0
        rw [h0] at hj; cases hj
      have hin : i < n := by
        refine Classical.byContradiction fun hge => ?_
        obtain ⟨_, o, ho, _⟩ := mem_ready.1 hi
        have hlt : i < ops.size := (Array.getElem?_eq_some_iff.1 ho).1
        simp only [Bool.or_eq_true, Bool.and_eq_true] at hs
        rcases hs with hs | ⟨hs1, hs2⟩
        · have := Nat.eq_of_beq_eq_true hs; omega
        · exact tail_waits hs1 hs2 (by omega) hinv _ i0 rfl hi0 (getD_in (by rw [hinv.size]; omega) hl0) i (by omega) hi
      have hinv' := hinv.set hi hin
      obtain ⟨hun, o, ho, hall⟩ := mem_ready.1 hi
      have hunf : listed.getD i false = false := getD_both hun
      have hset : (listed.setIfInBounds i true).getD i false = true := by
        have : i < listed.size := by rw [hinv.size]; exact (Array.getElem?_eq_some_iff.1 ho).1
        simp [this]
      have hoth : ∀ j, j ≠ i → (listed.setIfInBounds i true).getD j false = listed.getD j false := fun j hj => getD_set_ne false (Ne.symm hj)
      have hcnt : cntU n (fun j => (listed.setIfInBounds i true).getD j false) = c := by
        have := (cntU_set (i := i) (f := fun j => listed.getD j false) (g := fun j => (listed.setIfInBounds i true).getD j false) hunf hset hoth (n := n)).1 hin
        omega
      have hLi : L[i]? = some o := by rw [hLo hin]; exact ho
      have hvi : vs[i]? = some vs[i] := List.getElem?_eq_getElem (by omega)
      have hki : kd[i]? = some kd[i] := List.getElem?_eq_getElem (by omega)
      have hdst : ∀ d, o.dst = some d → d < N ∧ idxT d 0 L = some i := by
        have := (headOK_get hhead (i := i) (o := o) hLi).1
        simpa only [Nat.zero_add] using this
      -- the frame that the operation sees
      have hfi : Frm (m0.length + na) ρ N (ovl L (vs.take i) (memN (depsOf o)) fr0) a.tmps := by
        refine hf.forget fun t => ?_
        unfold ovl
        cases hj : idxT t 0 L with
        | none => exact .inr rfl
        | some j =>
          simp only
          cases hmem : memN (depsOf o) j with
          | false => exact .inl rfl
          | true =>
            obtain ⟨e, he, hb, hon⟩ := depsL_mem hmem
            have hlj : listed.getD j false = true := by rw [← hon]; exact hall e (by simpa using he) hb
            simp only [hlj, cond_true]
            by_cases hji : j < i
            · have hjv : vs[j]? = some vs[j] := List.getElem?_eq_getElem (by omega)
              rw [nthO_get hjv, nthO_get (v := vs[j]) (by rw [List.getElem?_take, if_pos hji, hjv])]
              exact .inr rfl
            · exact .inl (nthO_none (by simp; omega))
      -- the frame afterwards
      have hnext : ∀ {ρ' : Rho} {u : Value}, Frm (m0.length + na) ρ' N (ovl L vs (fun j => listed.getD j false) fr0) a.tmps → (o.dst ≠ none → Holds (m0.length + na) ρ' vs[i] u) → Frm (m0.length + na) ρ' N (ovl L vs (fun j => (listed.setIfInBounds i true).getD j false) fr0) (a.put o.dst u).tmps := by
        intro ρ' u hf' hu
        have other : ∀ t, o.dst ≠ some t → ovl L vs (fun j => (listed.setIfInBounds i true).getD j false) fr0 t = ovl L vs (fun j => listed.getD j false) fr0 t := by
          intro t ht
          unfold ovl
          cases hj : idxT t 0 L with
          | none => rfl
          | some j =>
            have hji : j ≠ i := by
              intro e2
              subst e2
              obtain ⟨_, o', ho', hdo'⟩ := idxT_dst hj
              rw [Nat.sub_zero, hLi] at ho'
              cases ho'
              exact ht hdo'
            simp only [hoth j hji]
        cases hd : o.dst with
        | none => exact hf'.forget fun t => .inr (other t (by rw [hd]; simp))
        | some d =>
          obtain ⟨hdN, hix⟩ := hdst d hd
          refine (hf'.put hdN (hu (by rw [hd]; simp))).forget fun t => .inr ?_
          by_cases e : t = d
          · subst e
            rw [fup_same]
            unfold ovl
            simp only [hix, hset, cond_true]
            exact nthO_get hvi
          · rw [fup_ne _ _ e]
            exact other t (by rw [hd]; intro h; cases h; exact e rfl)
      have hslot : (o.dst ≠ none → Sl (fun j => (listed.setIfInBounds i true).getD j false) vs[i]) → ∀ t, Sl (fun j => (listed.setIfInBounds i true).getD j false) (ovl L vs (fun j => (listed.setIfInBounds i true).getD j false) fr0 t) := by
        intro hvi' t
        have old : Sl (fun j => listed.getD j false) (ovl L vs (fun j => listed.getD j false) fr0 t) → Sl (fun j => (listed.setIfInBounds i true).getD j false) (ovl L vs (fun j => listed.getD j false) fr0 t) := by
          rintro (h | ⟨j, z, h1, h2, h3⟩)
          · exact .inl h
          · exact .inr ⟨j, z, getD_set_true h1, h2, h3⟩
        have h1 := old (hsl t)
        unfold ovl at h1 ⊢
        cases hj : idxT t 0 L with
        | none => rw [hj] at h1; exact h1
        | some j =>
          rw [hj] at h1
          by_cases hji : j = i
          · subst hji
            simp only [hset, cond_true]
            obtain ⟨_, o', ho', hdo'⟩ := idxT_dst hj
            rw [Nat.sub_zero, hLi] at ho'
            cases ho'
            rw [nthO_get hvi]; exact hvi' (by rw [hdo']; simp)
          · simp only [hoth j hji]; exact h1
      have hroots : kd[i]? = some .qt → mm (fun j => (listed.setIfInBounds i true).getD j false) = mm (fun j => listed.getD j false) := by
        intro hk0
        simp only [mm]
        congr 1
        refine rootsG_same fun j z hz => ?_
        rw [Nat.zero_add]
        have hne : j ≠ i := fun e => by subst e; rw [hz] at hk0; cases hk0
        simp only [gInc, hoth j hne]
        congr 2
        refine contA_congr fun i' v hv => ?_
        rw [Nat.zero_add]
        exact hoth i' fun e => by subst e; rw [hv] at hk0; cases hk0
      have hrep1 : Rep ρ (m0 ++ List.replicate na .dead) w := by
        refine hr.forgot (by rw [hml]; simp) fun j R hj => ?_
        simp only [mm]
        rw [List.getElem?_append] at hj ⊢
        split at hj
        · rename_i h; rw [if_pos h]; exact .inr hj
        · have := List.mem_of_getElem? hj
          exact .inl (List.eq_of_mem_replicate this)
      have hlen1 : (m0 ++ List.replicate na Root.dead).length = m0.length + na := by simp
      unfold wpOp
      simp only [ho]
      rcases hh.each i o vs[i] kd[i] hLi hvi hki with ⟨hq, hcase⟩ | ⟨t, ti, hq, hop, hgd, hti, hv⟩ | ⟨t, x, y, ti, sa, su, z, hq, hop, hgd, hdn, hti, hfu, hka, hfz, hdep, hex, hey, hsu, hfirst⟩
      · rw [hq] at hki
        rcases hcase with ⟨hgd, hQC, hsv⟩ | ⟨hgd, hv⟩
        · rw [if_pos (gd_wanted hgd hfi)]
          refine .inl (hQC N ρ a w (by rw [hlen1]; exact hfi) hrep1 _ _ fun u w' hu hb => ?_)
          rw [hlen1] at hu
          refine ih _ _ _ hcnt ⟨hinv', ρ, hnext hf (fun _ => hu), hslot (fun _ => .inl hsv), by rw [put_defers]; exact hdf, by rw [hroots hki]; exact hr.below hb, by rw [hroots hki]; exact htr.trans ((Tr.of_below hb).toK (by rw [hml]; omega))⟩
        · rw [if_neg (by rw [gd_wanted hgd hfi]; simp)]
          refine ih _ _ _ hcnt ⟨hinv', ρ, hnext hf (fun _ => .inl hv), hslot (fun _ => .inl (by rw [hv]; trivial)), by rw [put_defers]; exact hdf, by rw [hroots hki]; exact hr, by rw [hroots hki]; exact htr⟩
      · rw [hq] at hki
        have hw : Region.wanted o (yielded ops a.tmps) = true := by unfold Region.wanted; rw [hgd]
        rw [if_pos hw]
        have hk := hT t ti hti
        have hget0 : (rootsA (fun j => listed.getD j false) kd)[cntA kd i]? = some .dead := by
          have := rootsG_get (g := gInc (fun j => listed.getD j false) kd) (j := 0) hki
          rw [Nat.zero_add] at this
          unfold rootsA
          rw [this]
          simp only [gInc, hunf, cond_false]
        have hlt : cntA kd i < (rootsA (fun j => listed.getD j false) kd).length := (List.getElem?_eq_some_iff.1 hget0).1
        have hmset : mm (fun j => (listed.setIfInBounds i true).getD j false) = (mm fun j => listed.getD j false).set (m0.length + cntA kd i) (.var ti.z) := by
          have hnew : gInc (fun j => (listed.setIfInBounds i true).getD j false) kd i = .var ti.z := by
            simp only [gInc, hset, cond_true]
            congr 1
            rw [zOf_get hki]
            refine contA_none fun i' v hw2 => ?_
            rw [Nat.zero_add]
            have hne : i' ≠ i := fun e => by subst e; rw [hw2] at hki; cases hki
            rw [hoth i' hne]
            obtain ⟨o', _, ho', hdep', _⟩ := hst i' i v hw2
            cases hl' : listed.getD i' false with
            | false => rfl
            | true =>
              obtain ⟨e, he, hb, hon⟩ := depsL_mem hdep'
              have := hinv.closed i' o' ho' hl' e (by simpa using he) hb
              rw [hon, hunf] at this
              cases this
          have hset' := rootsG_set (g := gInc (fun j => listed.getD j false) kd) (g' := gInc (fun j => (listed.setIfInBounds i true).getD j false) kd) (k := i) (j := 0) hki (Nat.zero_add i) (fun j z' _ hj => by
            rw [Nat.zero_add] at hj ⊢
            simp only [gInc, hoth j hj]
            congr 2
            refine contA_congr fun i' v hw2 => ?_
            rw [Nat.zero_add]
            exact hoth i' fun e => by subst e; rw [hw2] at hki; cases hki)
          simp only [mm, rootsA]
          rw [hset', hnew, List.set_append_right _ _ (by omega), Nat.add_sub_cancel_left]
        have hdead : (mm fun j => listed.getD j false)[m0.length + cntA kd i]? = some .dead := by
          simp only [mm]
          rw [List.getElem?_append_right (by omega), Nat.add_sub_cancel_left]
          exact hget0
        obtain ⟨ρ', g1, g2, g3, g4, g5⟩ := hr.newVarAt m0.length (hsc _) (r := m0.length + cntA kd i) (by simp only [mm, List.length_append]; omega) hdead (by omega) ti.z t hk.pl hk.wf hk.sc
        have hagree : ∀ x, x < m0.length → ρ' x [] = ρ x [] := fun x hx => g5.agree x hx
        have hfρ : Frm (m0.length + na) ρ' N (ovl L vs (fun j => listed.getD j false) fr0) a.tmps := by
          refine ⟨hf.size, fun x => ?_⟩
          rcases hf.slot x with h | ⟨h1, h2, h3⟩
          · exact .inl h
          · refine .inr ⟨?_, h2, h3⟩
            rw [h1]
            rcases hsl x with h4 | ⟨j, z, h5, h6, h7⟩
            · exact (enc_congr hagree _ h4).symm
            · rw [h7]
              have hne : j ≠ i := fun e => by subst e; simp only at h5; rw [hunf] at h5; cases h5
              have hne2 : m0.length + cntA kd j ≠ m0.length + cntA kd i := fun e => hne (cntA_inj h6 hki (by omega))
              have hjl : m0.length + cntA kd j < (mm fun j => listed.getD j false).length := by
                simp only [mm, List.length_append]
                have := (List.getElem?_eq_some_iff.1 (rootsG_get (g := gInc (fun j => listed.getD j false) kd) (j := 0) h6)).1
                unfold rootsA
                omega
              simp only [enc, leaf]
              rw [g1 _ hjl hne2]
        refine .inl ?_
        unfold Oper.wp
        have hrun : (execOp a.eval o).run P w = .ok (.value (.pointer (some ⟨w.heap.size, 0, none⟩))) (w.alloc (.cells (cells ρ noA ti.z).toArray t)) := by
          have hnv : (newVar t (enc ρ ti.z)).run P w = .ok ⟨w.heap.size, 0, none⟩ (w.alloc (.cells (cells ρ noA ti.z).toArray t)) := by
            unfold newVar newRow
            rw [enc_cells _ hk.wf]
            rfl
          simp [execOp, hop, Instr.alloc, zeroValue_run hk w, enc_noR hk.sc ρ, hnv]
        rw [hrun]
        simp only [Oper.upon]
        refine ih _ _ _ hcnt ⟨hinv', ρ', hnext hfρ (fun _ => .inr ⟨?_, ?_, ?_⟩), hslot (fun _ => .inr ⟨i, ti.z, hset, hki, hv⟩), by rw [put_defers]; exact hdf, by rw [hmset]; exact g4, by rw [hmset]; exact htr.trans ⟨g5.os, g5.tape, g5.drawn, g5.output, g5.size, fun x hx => g5.agree x (by omega), g5.keep, g5.foot, g5.foot2⟩⟩
        · rw [hv]; simp only [enc, leaf, g2, g3, Nat.zero_add]
        · rw [hv]; show _ < _; have := hml (fun j => listed.getD j false); simp only [mm, List.length_append] at this; omega
        · rw [hv]; exact ⟨trivial, trivial⟩
      · rw [hq] at hki
        have hw : Region.wanted o (yielded ops a.tmps) = true := by unfold Region.wanted; rw [hgd]
        rw [if_pos hw]
        obtain ⟨e, he, hb, hon⟩ := depsL_mem hdep
        have hla : listed.getD sa false = true := by rw [← hon]; exact hall e (by simpa using he) hb
        have hnest : ∀ i' v, kd[i']? = some (.st sa v) → i' = i := fun i' v hv => huniq i sa su i' v hki hv
        have hgeta : (mm fun j => listed.getD j false)[m0.length + cntA kd sa]? = some (.var z) := by
          have := rootsG_get (g := gInc (fun j => listed.getD j false) kd) (j := 0) hka
          rw [Nat.zero_add] at this
          simp only [mm]
          rw [List.getElem?_append_right (by omega), Nat.add_sub_cancel_left]
          unfold rootsA
          rw [this]
          simp only [gInc, hla, cond_true]
          congr 2
          rw [zOf_get hka]
          refine contA_none fun i' v hv => ?_
          rw [Nat.zero_add, hnest i' v hv]
          exact hunf
        have hmset : mm (fun j => (listed.setIfInBounds i true).getD j false) = (mm fun j => listed.getD j false).set (m0.length + cntA kd sa) (.var su) := by
          have hsai : sa ≠ i := fun e => by rw [e, hki] at hka; cases hka
          have hnew : gInc (fun j => (listed.setIfInBounds i true).getD j false) kd sa = .var su := by
            simp only [gInc, hoth sa hsai, hla, cond_true]
            congr 1
            exact contA_only hki hnest (by rw [Nat.zero_add]; exact hset)
          have hset' := rootsG_set (g := gInc (fun j => listed.getD j false) kd) (g' := gInc (fun j => (listed.setIfInBounds i true).getD j false) kd) (k := sa) (j := 0) hka (Nat.zero_add sa) (fun j z' hz' hj => by
            rw [Nat.zero_add] at hj ⊢
            have hji : j ≠ i := fun e => by rw [e, hki] at hz'; cases hz'
            simp only [gInc, hoth j hji]
            congr 2
            refine contA_congr fun i' v hv => ?_
            rw [Nat.zero_add]
            refine hoth i' fun e => ?_
            subst e
            rw [hki] at hv
            cases hv
            exact hj rfl)
          simp only [mm, rootsA]
          rw [hset', hnew, List.set_append_right _ _ (by omega), Nat.add_sub_cancel_left]
        have hM : (mm fun j => listed.getD j false).length = m0.length + na := hml _
        have hstore : storeE T t (ev (ovl L (vs.take i) (memN (depsOf o)) fr0) x) (ev (ovl L (vs.take i) (memN (depsOf o)) fr0) y) (mm fun j => listed.getD j false) = some ([] ++ [Root.offA (.var z) [] = 0], (mm fun j => listed.getD j false).set (m0.length + cntA kd sa) (.var su)) := by
          rw [hex, hey]
          unfold storeE
          simp only [hti, hgeta, Root.mine, cond_true, Root.navE, Root.rowS, navE, hfu, hfz, Bool.and_self, Bool.false_or]
          rfl
        obtain ⟨ρ', w', nx, g1, g2, g3, g4⟩ := ok_store (P := P) (m := mm fun j => listed.getD j false) hT hop hstore (show AllP [Root.offA (.var z) [] = 0] from rfl) N ρ a w (by rw [hM]; exact hfi) hr
        have hfρ : Frm (m0.length + na) ρ' N (ovl L vs (fun j => listed.getD j false) fr0) a.tmps := by
          have h1 : Frm (mm fun j => listed.getD j false).length ρ N (ovl L vs (fun j => listed.getD j false) fr0) a.tmps := by rw [hM]; exact hf
          have := h1.tr g4
          rwa [List.length_set, hM] at this
        refine .inl ?_
        unfold Oper.wp
        rw [g1]
        have fin : ∀ u, wpAny P .any ops (Real N K ρ0 ⟨fr0, m0⟩ w0 Q) (c + (l.length - n)) (listed.setIfInBounds i true) (a.put o.dst u) w' := by
          intro u
          have hno : ¬ o.dst ≠ none := fun h => h hdn
          exact ih _ _ _ hcnt ⟨hinv', ρ', hnext hfρ (fun h => absurd h hno), hslot (fun h => absurd h hno), by rw [put_defers]; exact hdf, by rw [hmset]; exact g3, by rw [hmset]; exact htr.trans (g4.toK (by rw [hM]; omega))⟩
        rcases g2 with ⟨u, rfl, _⟩ | ⟨rfl, _⟩
        · exact fin u
        · exact fin undef
  have hcount : cntU n (fun j => (Array.replicate ops.size false).getD j false) = n := by
    have : ∀ n, cntU n (fun j => (Array.replicate ops.size false).getD j false) = n := by
      intro n
      induction n with
      | zero => rfl
      | succ n ihn =>
        simp only [getD_replicate_false] at ihn ⊢
        simp only [cntU, ihn]
        rfl
    exact this n
  have hfalse : (fun j => (Array.replicate ops.size false).getD j false) = fun _ => false := funext fun j => getD_replicate_false _ _
  have hb : BelowD w0.heap.size w0 { w0 with drawn := w0.drawn + 1 } := ⟨rfl, rfl, Nat.le_succ _, rfl, Nat.le_refl _, fun _ _ => rfl⟩
  have hfin := main n (Array.replicate ops.size false) a0 { w0 with drawn := w0.drawn + 1 } hcount ?_
  · rw [hsz] at hfin; rw [show n + (l.length - n) = l.length by omega] at hfin; exact hfin
  · -- the beginning: the variables to come are numbers of forgotten roots
    rw [show (Inv (Array.replicate ops.size false) a0 { w0 with drawn := w0.drawn + 1 }) = (HeadInv .any ops n (Array.replicate ops.size false) ∧ ∃ ρ, Frm (m0.length + na) ρ N (ovl L vs (fun j => (Array.replicate ops.size false).getD j false) fr0) a0.tmps ∧ (∀ t, Sl (fun j => (Array.replicate ops.size false).getD j false) (ovl L vs (fun j => (Array.replicate ops.size false).getD j false) fr0 t)) ∧ a0.defers = [] ∧
      Rep ρ (mm fun j => (Array.replicate ops.size false).getD j false) { w0 with drawn := w0.drawn + 1 } ∧ TrK K ρ0 m0 w0 ρ (mm fun j => (Array.replicate ops.size false).getD j false) { w0 with drawn := w0.drawn + 1 }) from rfl]
    rw [hfalse]
    refine ⟨⟨by simp, fun j oj _ hl => (by rw [getD_replicate_false] at hl; cases hl), fun t _ ht => getD_in (by simpa using ht) (getD_replicate_false _ _)⟩, ρ0, ?_, fun t => ?_, hdf0, ?_, ?_⟩
    · refine ⟨hf0.size, fun t => ?_⟩
      unfold ovl
      cases hj : idxT t 0 L with
      | some j => exact .inl rfl
      | none =>
        rcases hf0.slot t with h | ⟨h1, h2, h3⟩
        · exact .inl h
        · exact .inr ⟨h1, h2.mono (Nat.le_add_right _ _), h3⟩
    · unfold ovl
      cases hj : idxT t 0 L with
      | some j => exact .inl trivial
      | none =>
        rcases hf0.slot t with h | ⟨h1, h2, h3⟩
        · have h : fr0 t = .un := h
          exact .inl (by show Sc m0.length (fr0 t); rw [h]; trivial)
        · exact .inl h2
    · have hd : ∀ (j : Nat) (R : Root), (mm fun _ => false)[j]? = some R → R = .dead ∨ m0[j]? = some R := by
        intro j R hj
        simp only [mm] at hj
        rw [List.getElem?_append] at hj
        split at hj
        · exact .inr hj
        · have aux : ∀ {i : Nat} {R : Root}, (rootsA (fun _ => false) kd)[i]? = some R → R = .dead := by
            intro i R h
            obtain ⟨a, z, _, rfl⟩ := rootsG_mem h
            rfl
          exact .inl (aux hj)
      have : Rep ρ0 (mm fun _ => false) w0 := hr0.taken (τ := fun r => r) (k := m0.length) ⟨fun j R hj => (hd j R hj).imp (fun h => h) fun h1 => ⟨R, h1, Root.Le.refl R, fun d hd => (hr0.wf j R d h1 hd).2⟩, fun _ _ _ _ _ _ _ _ e => e, fun _ _ => rfl, by rw [hml]; omega⟩
      exact this.below hb
    · have hd : ∀ (j : Nat) (R : Root), (mm fun _ => false)[j]? = some R → R ≠ .dead → m0[j]? = some R := by
        intro j R hj hne
        simp only [mm] at hj
        rw [List.getElem?_append] at hj
        split at hj
        · exact hj
        · have aux : ∀ {i : Nat} {R : Root}, (rootsA (fun _ => false) kd)[i]? = some R → R = .dead := by
            intro i R h
            obtain ⟨a, z, _, rfl⟩ := rootsG_mem h
            rfl
          exact absurd (aux hj) hne
      refine ⟨rfl, rfl, Nat.le_succ _, rfl, Nat.le_refl _, fun _ _ => rfl, fun _ _ _ => rfl, fun r R q h1 h2 h3 => .inr ⟨r, R, q, hd r R h1 h3.at.ne, h2, h3, rfl⟩, fun r R q h1 h2 h3 => .inr ⟨r, R, q, hd r R h1 h2.ne, h2, h3, rfl⟩⟩
theorem WP.drawsT {T : TyEnv} (hT : TOK P T) (hm : P.follows .mixedOrders = true) {id : Nat} {l : List Oper} (n na : Nat) {fr0 : Nat → Dat} {m0 : List Root} (vs : List Dat) (kd : List KD) (hn : Nat.ble n l.length = true) (hhead : headOK N (l.take n) (l.take n) 0 = true)
    (hs : (Nat.beq n l.length || (Region.sinkB .any l.toArray n && Region.chainB .any l.toArray n)) = true) (hseq : Region.seqB .any l.toArray (l.length - n) n ((List.replicate n true ++ List.replicate (l.length - n) false).toArray) = true)
    (hvs : vs.length = n) (hna : (allocs kd).length = na) (hh : HH P T l.toArray (l.take n) na fr0 m0 vs kd)
    (k : WPL P N K l.toArray Q (l.drop n) ⟨putAll fr0 (l.take n) vs, m0 ++ allocs kd⟩) : WP P N K (.region id l.toArray true) Q ⟨fr0, m0⟩ := by
  intro ρ a w h
  refine wp_region_any hm ?_
  have := WR.drawsT hT n na vs kd hn hhead hs hseq hvs hna hh k ρ a w h
  rw [show l.toArray.size = l.length by simp]
  exact this
end
end Go.Proofs.Ythjnmlpibafbnaa.DM
