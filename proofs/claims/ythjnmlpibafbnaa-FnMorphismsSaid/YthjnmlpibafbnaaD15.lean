import Derived.Test.YthjnmlpibafbnaaD14
namespace Go.Proofs.Ythjnmlpibafbnaa.DM
open Go.RowKit
section
variable {P : Program} {T : TyEnv} {N K : Nat} {Q : Exit → St → Prop} {ops : Array Oper} {L : List Oper} {na : Nat} {fr0 : Nat → Dat} {m0 : List Root} {vs : List Dat} {kd : List KD}
theorem cntA_app : ∀ {l k : List KD} {j : Nat}, j ≤ l.length → cntA (l ++ k) j = cntA l j
  | [], k, j, h => by
    have : j = 0 := by simpa using h
    subst this
    cases k with
    | nil => rfl
    | cons a k => cases a <;> rfl
  | a :: l, k, 0, h => by cases a <;> rfl
  | a :: l, k, j + 1, h => by
    have := cntA_app (l := l) (k := k) (j := j) (by simpa using h)
    cases a <;> simp only [List.cons_append, cntA, this]
theorem HH.nil : HH P T ops L na fr0 m0 [] [] := ⟨rfl, fun j o v q _ h => by simp at h⟩
theorem HH.snoc (h : HH P T ops L na fr0 m0 vs kd) {o : Oper} {v : Dat} {q : KD} (ho : L[vs.length]? = some o)
    (hc : (q = .qt ∧ ((gd ops o (ovl L vs (memN (depsOf o)) fr0) = some true ∧ QC P o (ovl L vs (memN (depsOf o)) fr0) (m0 ++ List.replicate na .dead) v ∧ Sc m0.length v) ∨ (gd ops o (ovl L vs (memN (depsOf o)) fr0) = some false ∧ v = .un))) ∨
      (∃ t i, q = .al i.z ∧ o.op = .alloc t ∧ o.guard = none ∧ T t = some i ∧ v = .p (m0.length + cntA kd kd.length) [] 0) ∨
      (∃ t x y i a u z, q = .st a u ∧ o.op = .store t x y ∧ o.guard = none ∧ o.dst = none ∧ T t = some i ∧ fit i u = true ∧ kd[a]? = some (.al z) ∧ fit i z = true ∧ memN (depsOf o) a = true ∧ ev (ovl L vs (memN (depsOf o)) fr0) x = .p (m0.length + cntA kd a) [] 0 ∧
        ev (ovl L vs (memN (depsOf o)) fr0) y = u ∧ Sc m0.length u ∧ ∀ (j' : Nat) (w : Dat), kd[j']? ≠ some (.st a w))) : HH P T ops L na fr0 m0 (vs ++ [v]) (kd ++ [q]) := by
  refine ⟨by simp [h.len], fun j o' v' q' hj hv hq => ?_⟩
  have look : ∀ {x : Nat} {K : KD}, kd[x]? = some K → (kd ++ [q])[x]? = some K := fun {x K} hx => by
    rw [List.getElem?_append_left (List.getElem?_eq_some_iff.1 hx).1]; exact hx
  by_cases e : j < vs.length
  · have hk : j < kd.length := by rw [h.len]; exact e
    rw [List.getElem?_append_left e] at hv
    rw [List.getElem?_append_left hk] at hq
    have := h.each j o' v' q' hj hv hq
    rw [List.take_append_of_le_length (by omega), cntA_app (by omega)]
    rcases this with h1 | h1 | ⟨t, x, y, i, a, u, z, h1, h2, h3, h4, h5, h6, h7, h8, h9, h10, h11, h12, h13⟩
    · exact .inl h1
    · exact .inr (.inl h1)
    · have ha : a < kd.length := (List.getElem?_eq_some_iff.1 h7).1
      refine .inr (.inr ⟨t, x, y, i, a, u, z, h1, h2, h3, h4, h5, h6, look h7, h8, h9, by rw [cntA_app (by omega)]; exact h10, h11, h12, fun j' hj' w hw => ?_⟩)
      rw [List.getElem?_append_left (by omega)] at hw
      exact h13 j' hj' w hw
  · have hj' : j = vs.length := by
      have := (List.getElem?_eq_some_iff.1 hv).1
      simp at this; omega
    subst hj'
    rw [ho] at hj
    cases hj
    rw [List.getElem?_append_right (Nat.le_refl _), Nat.sub_self] at hv
    rw [← h.len, List.getElem?_append_right (Nat.le_refl _), Nat.sub_self] at hq
    cases hv; cases hq
    rw [List.take_append_of_le_length (Nat.le_refl _), List.take_length, ← h.len, cntA_app (Nat.le_refl _)]
    rcases hc with h1 | h1 | ⟨t, x, y, i, a, u, z, h1, h2, h3, h4, h5, h6, h7, h8, h9, h10, h11, h12, h13⟩
    · exact .inl h1
    · exact .inr (.inl h1)
    · have ha : a < kd.length := (List.getElem?_eq_some_iff.1 h7).1
      refine .inr (.inr ⟨t, x, y, i, a, u, z, h1, h2, h3, h4, h5, h6, look h7, h8, h9, by rw [cntA_app (by omega)]; exact h10, h11, h12, fun j' hj' w hw => ?_⟩)
      rw [List.getElem?_append_left hj'] at hw
      exact h13 j' w hw
def findA (c : Nat) (j : Nat) : List KD → Option (Nat × Dat)
  | [] => none
  | .al z :: l => match c with
    | 0 => some (j, z)
    | c + 1 => findA c (j + 1) l
  | .qt :: l => findA c (j + 1) l
  | .st _ _ :: l => findA c (j + 1) l
theorem findA_get : ∀ {l : List KD} {c j a : Nat} {z : Dat}, findA c j l = some (a, z) → j ≤ a ∧ l[a - j]? = some (.al z) ∧ cntA l (a - j) = c
  | [], c, j, a, z, h => by simp [findA] at h
  | x :: l, c, j, a, z, h => by
    cases x with
    | al y =>
      cases c with
      | zero =>
        simp only [findA, Option.some.injEq, Prod.mk.injEq] at h
        obtain ⟨rfl, rfl⟩ := h
        exact ⟨Nat.le_refl _, by simp, by simp [cntA]⟩
      | succ c =>
        obtain ⟨h1, h2, h3⟩ := findA_get (l := l) (by simpa only [findA] using h)
        exact ⟨by omega, by rw [show a - j = (a - (j + 1)) + 1 by omega]; simpa using h2, by rw [show a - j = (a - (j + 1)) + 1 by omega]; simp only [cntA, h3]⟩
    | qt =>
      obtain ⟨h1, h2, h3⟩ := findA_get (l := l) (by simpa only [findA] using h)
      exact ⟨by omega, by rw [show a - j = (a - (j + 1)) + 1 by omega]; simpa using h2, by rw [show a - j = (a - (j + 1)) + 1 by omega]; simp only [cntA, h3]⟩
    | st b v =>
      obtain ⟨h1, h2, h3⟩ := findA_get (l := l) (by simpa only [findA] using h)
      exact ⟨by omega, by rw [show a - j = (a - (j + 1)) + 1 by omega]; simpa using h2, by rw [show a - j = (a - (j + 1)) + 1 by omega]; simp only [cntA, h3]⟩
def noSt (a : Nat) : List KD → Bool
  | [] => true
  | .st b _ :: l => bif Nat.beq b a then false else noSt a l
  | .al _ :: l => noSt a l
  | .qt :: l => noSt a l
theorem noSt_get {a : Nat} : ∀ {l : List KD}, noSt a l = true → ∀ (j : Nat) (w : Dat), l[j]? ≠ some (.st a w)
  | [], _, j, w => by simp
  | x :: l, h, j, w => by
    have rest : noSt a l = true := by
      cases x with
      | al y => exact h
      | qt => exact h
      | st b v =>
        simp only [noSt] at h
        rw [cond_eq_ite] at h
        split at h
        · cases h
        · exact h
    cases j with
    | zero =>
      simp only [List.getElem?_cons_zero, ne_eq, Option.some.injEq]
      rintro rfl
      simp only [noSt, show Nat.beq a a = true from Nat.beq_refl a, cond_true] at h
      cases h
    | succ j => simpa using noSt_get rest j w
def scL (n : Nat) : Dat → List Prop
  | .p r _ _ => bif Nat.blt r n then [] else [False]
  | .sl r _ _ _ => bif Nat.blt r n then [] else [False]
  | .ar k s f => [Sc n (.ar k s f)]
  | .st k f => [Sc n (.st k f)]
  | .ow e k s f => [Sc n (.ow e k s f)]
  | .tup k f => [Sc n (.tup k f)]
  | .fn g k f => [Sc n (.fn g k f)]
  | _ => []
theorem scL_ok {n : Nat} {v : Dat} (h : AllP (scL n v)) : Sc n v := by
  cases v <;> simp only [scL] at h <;> first | trivial | exact h | skip
  case p r q o =>
    cases hb : Nat.blt r n with
    | true => rw [Nat.blt_eq] at hb; exact hb
    | false => rw [hb] at h; exact h.elim
  case sl r a b c =>
    cases hb : Nat.blt r n with
    | true => rw [Nat.blt_eq] at hb; exact hb
    | false => rw [hb] at h; exact h.elim
def idxD (t j : Nat) (l : List (Option Nat)) : Option Nat := match l with
  | [] => none
  | some d :: l => bif Nat.beq d t then some j else idxD t (j + 1) l
  | none :: l => idxD t (j + 1) l
def ovlD (D : List (Option Nat)) (vs : List Dat) (d : List Nat) (fr0 : Nat → Dat) (t : Nat) : Dat := match idxD t 0 D with
  | some j => bif memN d j then nthO vs j else .un
  | none => fr0 t
def dstsL : List Oper → List (Option Nat)
  | [] => []
  | o :: l => o.dst :: dstsL l
theorem idxD_eq (t : Nat) : ∀ (l : List Oper) (j : Nat), idxD t j (dstsL l) = idxT t j l
  | [], j => rfl
  | o :: l, j => by
    cases hd : o.dst with
    | none => simp only [dstsL, idxT, hd, idxD]; exact idxD_eq t l (j + 1)
    | some d => simp only [dstsL, idxT, hd, idxD]; rw [idxD_eq t l (j + 1)]
theorem ovlD_eq (l : List Oper) (vs : List Dat) (d : List Nat) (fr0 : Nat → Dat) : ovlD (dstsL l) vs d fr0 = ovl l vs (memN d) fr0 := by
  funext t
  unfold ovlD ovl
  rw [idxD_eq]
  cases idxT t 0 l <;> rfl
def fNs {α : Type} (l : List Nat) (k : List Nat → α) : α := match l with
  | [] => k []
  | x :: l => fNs l fun l => k (x :: l)
theorem fNs_eq {α : Type} : ∀ (l : List Nat) (k : List Nat → α), fNs l k = k l
  | [], _ => rfl
  | x :: l, k => by rw [fNs, fNs_eq l]
def fOs {α : Type} (l : List (Option Nat)) (k : List (Option Nat) → α) : α := match l with
  | [] => k []
  | some d :: l => fOs l fun l => k (some d :: l)
  | none :: l => fOs l fun l => k (none :: l)
theorem fOs_eq {α : Type} : ∀ (l : List (Option Nat)) (k : List (Option Nat) → α), fOs l k = k l
  | [], _ => rfl
  | some _ :: l, k => by rw [fOs, fOs_eq l]
  | none :: l, k => by rw [fOs, fOs_eq l]
def fPs {α : Type} (l : List Prop) (k : List Prop → α) : α := match l with
  | [] => k []
  | x :: l => fPs l fun l => k (x :: l)
theorem fPs_eq {α : Type} : ∀ (l : List Prop) (k : List Prop → α), fPs l k = k l
  | [], _ => rfl
  | x :: l, k => by rw [fPs, fPs_eq l]
def isAl : Op → Option TypeId
  | .alloc t => some t
  | _ => none
def isSt : Op → Option (TypeId × Operand × Operand)
  | .store t x y => some (t, x, y)
  | _ => none
def evSt (T : TyEnv) (f : Nat → Dat) (n0 : Nat) (o : Oper) (kd : List KD) (t : TypeId) (x y : Operand) : Option (List Prop × KD) :=
  match T t, ev f x, o.dst with
  | some i, .p r [] 0, none => match findA (r - n0) 0 kd with
    | some (a, z) => fD (ev f y) fun u => bif Nat.ble n0 r && (noSt a kd && (memN (depsOf o) a && (fit i u && fit i z))) then some (scL n0 u, .st a u) else none
    | none => none
  | _, _, _ => none
def evH (T : TyEnv) (wm : Bool) (ops : Array Oper) (D : List (Option Nat)) (mx : List Root) (n0 : Nat) (fr0 : Nat → Dat) (l : List Oper) (vs : List Dat) (kd : List KD) (acc : List Prop) : Option (List Prop × List Dat × List KD) := match l with
  | [] => some (acc, vs, kd)
  | o :: l => fNs (depsOf o) fun d => match isAl o.op, isSt o.op, o.guard with
    | some t, _, none => match T t with
      | some i => evH T wm ops D mx n0 fr0 l (vs ++ [.p (n0 + cntA kd kd.length) [] 0]) (kd ++ [.al i.z]) acc
      | none => none
    | _, some (t, x, y), none => match evSt T (ovlD D vs d fr0) n0 o kd t x y with
      | some (ps, k) => fPs (acc ++ ps) fun acc => evH T wm ops D mx n0 fr0 l (vs ++ [.un]) (kd ++ [k]) acc
      | none => none
    | _, _, _ => match gd ops o (ovlD D vs d fr0) with
      | some true => bif isQ o.op then match evalOp T wm o.op (ovlD D vs d fr0) mx with
          | some (ps, v, _) => fD v fun v => fPs (acc ++ (ps ++ scL n0 v)) fun acc => evH T wm ops D mx n0 fr0 l (vs ++ [v]) (kd ++ [.qt]) acc
          | none => none
        else none
      | some false => evH T wm ops D mx n0 fr0 l (vs ++ [.un]) (kd ++ [.qt]) acc
      | none => none
theorem evSt_ok {f : Nat → Dat} {n0 : Nat} {o : Oper} {t : TypeId} {x y : Operand} {ps : List Prop} {k : KD} (h : evSt T f n0 o kd t x y = some (ps, k)) (hp : AllP ps) (hop : isSt o.op = some (t, x, y)) (hg : o.guard = none) :
    ∃ t x y i a u z, k = .st a u ∧ o.op = .store t x y ∧ o.guard = none ∧ o.dst = none ∧ T t = some i ∧ fit i u = true ∧ kd[a]? = some (.al z) ∧ fit i z = true ∧ memN (depsOf o) a = true ∧ ev f x = .p (n0 + cntA kd a) [] 0 ∧ ev f y = u ∧ Sc n0 u ∧ ∀ (j' : Nat) (w : Dat), kd[j']? ≠ some (.st a w) := by
  have hop' : o.op = .store t x y := by
    cases ho : o.op <;> rw [ho] at hop <;> simp only [isSt, reduceCtorEq, Option.some.injEq, Prod.mk.injEq] at hop
    obtain ⟨rfl, rfl, rfl⟩ := hop; rfl
  unfold evSt at h
  split at h
  · rename_i i r hi hx hd
    split at h
    · rename_i a z hf
      rw [fD_eq, cond_eq_ite] at h
      split at h
      · rename_i hc
        simp only [Bool.and_eq_true] at hc
        obtain ⟨c1, c2, c3, c4, c5⟩ := hc
        simp only [Option.some.injEq, Prod.mk.injEq] at h
        obtain ⟨rfl, rfl⟩ := h
        obtain ⟨_, g2, g3⟩ := findA_get hf
        rw [Nat.sub_zero] at g2 g3
        have := Nat.le_of_ble_eq_true c1
        exact ⟨t, x, y, i, a, _, z, rfl, hop', hg, hd, hi, c4, g2, c5, c3, by rw [g3, hx, show n0 + (r - n0) = r by omega], rfl, scL_ok hp, noSt_get c2⟩
      · cases h
    · cases h
  · cases h
theorem evH_ok (hT : TOK P T) {wm : Bool} : ∀ {l : List Oper} {vs : List Dat} {kd : List KD} {acc ps : List Prop} {vs' : List Dat} {kd' : List KD}, evH T wm ops (dstsL L) (m0 ++ List.replicate na .dead) m0.length fr0 l vs kd acc = some (ps, vs', kd') → AllP ps → (∀ j, j < l.length → L[vs.length + j]? = l[j]?) →
    AllP acc ∧ (HH P T ops L na fr0 m0 vs kd → HH P T ops L na fr0 m0 vs' kd')
  | [], vs, kd, acc, ps, vs', kd', h, hp, _ => by
    simp only [evH, Option.some.injEq, Prod.mk.injEq] at h
    obtain ⟨rfl, rfl, rfl⟩ := h
    exact ⟨hp, id⟩
  | o :: l, vs, kd, acc, ps, vs', kd', h, hp, hl => by
    have ho : L[vs.length]? = some o := by simpa using hl 0 (by simp)
    have hl' : ∀ v, ∀ j, j < l.length → L[(vs ++ [v]).length + j]? = l[j]? := fun v j hj => by
      have := hl (j + 1) (by simp; omega)
      simp only [List.length_append, List.length_singleton]
      rw [show vs.length + 1 + j = vs.length + (j + 1) by omega, this]; simp
    have quiet : (match gd ops o (ovl L vs (memN (depsOf o)) fr0) with
      | some true => bif isQ o.op then match evalOp T wm o.op (ovl L vs (memN (depsOf o)) fr0) (m0 ++ List.replicate na .dead) with
          | some (ps, v, _) => fD v fun v => evH T wm ops (dstsL L) (m0 ++ List.replicate na .dead) m0.length fr0 l (vs ++ [v]) (kd ++ [.qt]) (acc ++ (ps ++ scL m0.length v))
          | none => none
        else none
      | some false => evH T wm ops (dstsL L) (m0 ++ List.replicate na .dead) m0.length fr0 l (vs ++ [.un]) (kd ++ [.qt]) acc
      | none => none) = some (ps, vs', kd') → AllP acc ∧ (HH P T ops L na fr0 m0 vs kd → HH P T ops L na fr0 m0 vs' kd') := by
      intro h
      split at h
      · rename_i hg
        rw [cond_eq_ite] at h
        split at h
        · rename_i hq
          split at h
          · rename_i ps1 v m' he
            rw [fD_eq] at h
            obtain ⟨h1, h2⟩ := evH_ok hT h hp (hl' v)
            obtain ⟨h3, h4⟩ := h1.app
            obtain ⟨h5, h6⟩ := h4.app
            have hsc := scL_ok h6
            refine ⟨h3, fun hh => h2 (hh.snoc ho (.inl ⟨rfl, .inl ⟨hg, ?_, hsc⟩⟩))⟩
            exact QC.of_q (evalOp_q hT hq he h5) (hsc.mono (by simp))
          · cases h
        · cases h
      · rename_i hg
        obtain ⟨h1, h2⟩ := evH_ok hT h hp (hl' .un)
        exact ⟨h1, fun hh => h2 (hh.snoc ho (.inl ⟨rfl, .inr ⟨hg, rfl⟩⟩))⟩
      · cases h
    simp only [evH, fNs_eq, fPs_eq, ovlD_eq] at h
    split at h
    · rename_i t ha hg
      split at h
      · rename_i i hi
        obtain ⟨h1, h2⟩ := evH_ok hT h hp (hl' _)
        have hop : o.op = .alloc t := by
          cases ho' : o.op <;> rw [ho'] at ha <;> simp only [isAl, Option.some.injEq, reduceCtorEq] at ha
          rw [ha]
        exact ⟨h1, fun hh => h2 (hh.snoc ho (.inr (.inl ⟨t, i, rfl, hop, hg, hi, rfl⟩)))⟩
      · cases h
    · rename_i t x y ha hst hg
      split at h
      · rename_i ps1 k he
        obtain ⟨h1, h2⟩ := evH_ok hT h hp (hl' .un)
        obtain ⟨h3, h4⟩ := h1.app
        exact ⟨h3, fun hh => h2 (hh.snoc ho (.inr (.inr (evSt_ok he h4 ha hst))))⟩
      · cases h
    · exact quiet h
theorem drop_get {l rest : List Oper} {n : Nat} {o : Oper} (h : l.drop n = o :: rest) : l[n]? = some o := by
  have h1 : (l.drop n)[0]? = some o := by rw [h]; rfl
  rw [List.getElem?_drop] at h1
  exact h1
def HW (P : Program) (T : TyEnv) (ops : Array Oper) (L : List Oper) (na : Nat) (fr0 : Nat → Dat) (m0 : List Root) (vs : List Dat) (kd : List KD) (G : Prop) : Prop := HH P T ops L na fr0 m0 vs kd → G
theorem HW.run (wm : Bool) (n : Nat) (hT : TOK P T) {G : Prop} {ps : List Prop} {vs' : List Dat} {kd' : List KD} (h : (fOs (dstsL L) fun D => fM (m0 ++ List.replicate na .dead) fun mx => fL m0 fun n0 => evH T wm ops D mx n0 fr0 ((L.drop vs.length).take n) vs kd []) = some (ps, vs', kd')) (hp : AllP ps) (k : HW P T ops L na fr0 m0 vs' kd' G) : HW P T ops L na fr0 m0 vs kd G := by
  intro hh
  rw [fOs_eq, fM_eq, fL_eq] at h
  refine k ((evH_ok hT h hp fun j hj => ?_).2 hh)
  simp only [List.length_take, List.length_drop] at hj
  rw [List.getElem?_take, if_pos (by omega), List.getElem?_drop]
theorem HW.call {dst : Tmp} {args : List Operand} {tys : Array TypeId} {t : TypeId} {pos : String} {after : Array Edge} {gg : Option (Nat × Bool)} {rest : List Oper} {f : FuncId} {xs : List Dat} {r : Dat} {m1 : List Root} {G : Prop} (ts : List Nat) (h : FnR P f xs m1 r)
    (ho : L.drop vs.length = { dst := some dst, op := .call { callee := .value (.func f), args := args.toArray, argTypes := tys }, type := t, pos := pos, after := after, guard := gg } :: rest)
    (hn : noMine m1 = true) (hl : LeAll 0 (m0 ++ List.replicate na .dead) ts m1) (hx : ArgsR (tauOf ts) (ovl L vs (memN (depsL after.toList)) fr0) xs args)
    (hg : gd ops { dst := some dst, op := .call { callee := .value (.func f), args := args.toArray, argTypes := tys }, type := t, pos := pos, after := after, guard := gg } (ovl L vs (memN (depsL after.toList)) fr0) = some true) (hsc : ∀ x ∈ xs, Sc m1.length x) (hr : Sc 0 r)
    (k : HW P T ops L na fr0 m0 (vs ++ [r]) (kd ++ [.qt]) G) : HW P T ops L na fr0 m0 vs kd G := by
  intro hh
  exact k (hh.snoc (drop_get ho) (.inl ⟨rfl, .inl ⟨hg, QC.call ts h hn hl hx hsc, hr.mono (Nat.zero_le _)⟩⟩))
theorem HW.skip {o : Oper} {rest : List Oper} {G : Prop} (ho : L.drop vs.length = o :: rest) (hg : gd ops o (ovl L vs (memN (depsOf o)) fr0) = some false) (k : HW P T ops L na fr0 m0 (vs ++ [.un]) (kd ++ [.qt]) G) : HW P T ops L na fr0 m0 vs kd G := by
  intro hh
  exact k (hh.snoc (drop_get ho) (.inl ⟨rfl, .inr ⟨hg, rfl⟩⟩))
theorem WP.dt (n na : Nat) {id : Nat} {l : List Oper} (h : HW P T l.toArray (l.take n) na fr0 m0 [] [] (WP P N K (.region id l.toArray true) Q ⟨fr0, m0⟩)) : WP P N K (.region id l.toArray true) Q ⟨fr0, m0⟩ := h HH.nil
theorem HW.fin (hT : TOK P T) (hm : P.follows .mixedOrders = true) {id : Nat} {l : List Oper} (n na : Nat) (hn : Nat.ble n l.length = true) (hhead : headOK N (l.take n) (l.take n) 0 = true)
    (hs : (Nat.beq n l.length || (Region.sinkB .any l.toArray n && Region.chainB .any l.toArray n)) = true) (hseq : Region.seqB .any l.toArray (l.length - n) n ((List.replicate n true ++ List.replicate (l.length - n) false).toArray) = true)
    (hvs : Nat.beq vs.length n = true) (hna : Nat.beq (allocs kd).length na = true) {fr' : Nat → Dat} {m' : List Root} (hf : putAll fr0 (l.take n) vs = fr') (hm' : m0 ++ allocs kd = m') (k : WPL P N K l.toArray Q (l.drop n) ⟨fr', m'⟩) :
    HW P T l.toArray (l.take n) na fr0 m0 vs kd (WP P N K (.region id l.toArray true) Q ⟨fr0, m0⟩) := by
  intro hh
  subst hf; subst hm'
  exact WP.drawsT hT hm n na vs kd hn hhead hs hseq (Nat.eq_of_beq_eq_true hvs) (Nat.eq_of_beq_eq_true hna) hh k
theorem WR.dt (n na : Nat) {l : List Oper} (h : HW P T l.toArray (l.take n) na fr0 m0 [] [] (WR P N K l Q ⟨fr0, m0⟩)) : WR P N K l Q ⟨fr0, m0⟩ := h HH.nil
theorem HW.finR (hT : TOK P T) {l : List Oper} (n na : Nat) (hn : Nat.ble n l.length = true) (hhead : headOK N (l.take n) (l.take n) 0 = true)
    (hs : (Nat.beq n l.length || (Region.sinkB .any l.toArray n && Region.chainB .any l.toArray n)) = true) (hseq : Region.seqB .any l.toArray (l.length - n) n ((List.replicate n true ++ List.replicate (l.length - n) false).toArray) = true)
    (hvs : Nat.beq vs.length n = true) (hna : Nat.beq (allocs kd).length na = true) {fr' : Nat → Dat} {m' : List Root} (hf : putAll fr0 (l.take n) vs = fr') (hm' : m0 ++ allocs kd = m') (k : WPL P N K l.toArray Q (l.drop n) ⟨fr', m'⟩) :
    HW P T l.toArray (l.take n) na fr0 m0 vs kd (WR P N K l Q ⟨fr0, m0⟩) := by
  intro hh
  subst hf; subst hm'
  exact WR.drawsT hT n na vs kd hn hhead hs hseq (Nat.eq_of_beq_eq_true hvs) (Nat.eq_of_beq_eq_true hna) hh k
theorem LeAll.cons {k : Nat} {m : List Root} {t : Nat} {ts : List Nat} {R R0 : Root} {l : List Root} (h1 : m[t]? = some R0) (h2 : R0.Le R) (h3 : ∀ d, R.con = some d → Sc k d) (h4 : LeAll k m ts l) : LeAll k m (t :: ts) (R :: l) := ⟨⟨R0, h1, h2, h3⟩, h4⟩
theorem le_row {e : TypeId} {n n' s : Nat} {f f' : Nat → Dat} (hn : n' ≤ n) (h : ∀ i, i < n' → f' i = f i) : (Root.row e n s f).Le (.row e n' s f') := ⟨⟨rfl, rfl⟩, hn, h⟩
theorem le_frz {e : TypeId} {n n' s : Nat} {f f' : Nat → Dat} (hn : n' ≤ n) (h : ∀ i, i < n' → f' i = f i) : (Root.row e n s f).Le (.ro n' s f') := ⟨rfl, hn, h⟩
theorem le_ro {n n' s : Nat} {f f' : Nat → Dat} (hn : n' ≤ n) (h : ∀ i, i < n' → f' i = f i) : (Root.ro n s f).Le (.ro n' s f') := ⟨rfl, hn, h⟩
theorem le_var {d d' : Dat} (h : d' = d) : (Root.var d).Le (.var d') := h
theorem le_dead {R : Root} : R.Le .dead := by cases R <;> trivial
theorem SlotsR.cons {τ : Nat → Nat} {n : Nat} {fr : Nat → Dat} {x : Nat} {v : Dat} {l : List (Nat × Dat)} (h1 : renD τ v (fr x)) (h2 : Sc n v) (h3 : SlotsR τ n fr l) : SlotsR τ n fr ((x, v) :: l) := ⟨⟨h1, h2⟩, h3⟩
theorem addrAt0 (i : Nat) : addrAt 0 i = i := rfl
theorem sc_p {n r o : Nat} {q : List Nat} (h : Nat.blt r n = true) : Sc n (.p r q o) := by rw [Nat.blt_eq] at h; exact h
theorem sc_sl {n r a b c : Nat} (h : Nat.blt r n = true) : Sc n (.sl r a b c) := by rw [Nat.blt_eq] at h; exact h
end
end Go.Proofs.Ythjnmlpibafbnaa.DM
