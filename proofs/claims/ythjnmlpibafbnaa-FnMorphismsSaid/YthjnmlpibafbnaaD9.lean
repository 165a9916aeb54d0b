import Derived.Test.YthjnmlpibafbnaaD8
namespace Go.Proofs.Ythjnmlpibafbnaa.DM
open Go.RowKit
structure St where
  fr : Nat → Dat
  m : List Root
def Rel (N K : Nat) (ρ : Rho) (s : St) (a : Act) (w : World) : Prop := Frm s.m.length ρ N s.fr a.tmps ∧ a.defers = [] ∧ Rep ρ s.m w ∧ K ≤ s.m.length
def Real (N K : Nat) (ρ : Rho) (s : St) (w : World) (Q : Exit → St → Prop) : Exit → Act → World → Prop :=
  fun e a' w' => ∃ ρ' s', Rel N K ρ' s' a' w' ∧ TrK K ρ s.m w ρ' s'.m w' ∧ Q e s'
def WP (P : Program) (N K : Nat) (c : Code) (Q : Exit → St → Prop) (s : St) : Prop :=
  ∀ ρ a w, Rel N K ρ s a w → c.wp P (Real N K ρ s w Q) a w
def WPL (P : Program) (N K : Nat) (ops : Array Oper) (Q : Exit → St → Prop) (l : List Oper) (s : St) : Prop :=
  ∀ ρ a w, Rel N K ρ s a w → wpList P ops (Real N K ρ s w Q) l a w
def Then (K : St → Prop) (Q : Exit → St → Prop) : Exit → St → Prop
  | .normal, s => K s
  | e, s => Q e s
def InBlk (id : Nat) (Q : Exit → St → Prop) : Exit → St → Prop
  | .exit j, s => bif Nat.beq j id then Q .normal s else Q (.exit j) s
  | e, s => Q e s
theorem upon_mono {P : Program} {o : Oper} {a : Act} {K K' : Act → World → Prop} {Q Q' : Exit → Act → World → Prop} (hk : ∀ a w, K a w → K' a w) (hq : ∀ e a w, Q e a w → Q' e a w) : ∀ {r : Result Next}, o.upon P a K Q r → o.upon P a K' Q' r := by
  intro r h
  cases r with
  | ok n w =>
    cases n <;> simp only [Oper.upon] at h ⊢ <;> first | exact hk _ _ h | exact h | skip
    · refine h.mono fun e w' hh => ?_
      cases e with
      | returned v => exact hk _ _ hh
      | panicked c => exact hq _ _ _ hh
      | outgrown => obtain ⟨a, w, hh⟩ := hh; exact ⟨a, w, hq _ _ _ hh⟩
    · exact h.mono fun v w' hh => hk _ _ hh
  | halt x w =>
    cases x <;> simp only [Oper.upon] at h ⊢ <;> first | exact hq _ _ _ h | exact h
theorem wpList_mono {P : Program} {ops : Array Oper} {Q Q' : Exit → Act → World → Prop} (hq : ∀ e a w, Q e a w → Q' e a w) : ∀ (l : List Oper) (a : Act) (w : World), wpList P ops Q l a w → wpList P ops Q' l a w
  | [], a, w, h => hq _ _ _ h
  | o :: l, a, w, h => by
    unfold wpList at h ⊢
    split
    · rename_i hw
      rw [if_pos hw] at h
      rcases h with h | ⟨h, a', w', h'⟩
      · exact .inl (upon_mono (fun a w => wpList_mono hq l a w) hq h)
      · exact .inr ⟨h, a', w', hq _ _ _ h'⟩
    · rename_i hw
      rw [if_neg hw] at h
      exact wpList_mono hq l _ _ h
section
variable {P : Program} {N K : Nat} {Q Q' : Exit → St → Prop} {s : St}
theorem Real.tr {ρ ρ1 : Rho} {s s1 : St} {w w1 : World} (h : TrK K ρ s.m w ρ1 s1.m w1) : ∀ {e : Exit} {a' : Act} {w' : World}, Real N K ρ1 s1 w1 Q e a' w' → Real N K ρ s w Q e a' w' :=
  fun ⟨ρ', s', h1, h2, h3⟩ => ⟨ρ', s', h1, h.trans h2, h3⟩
theorem Real.mono {ρ : Rho} {w : World} (h : ∀ e s, Q e s → Q' e s) : ∀ {e : Exit} {a' : Act} {w' : World}, Real N K ρ s w Q e a' w' → Real N K ρ s w Q' e a' w' :=
  fun ⟨ρ', s', h1, h2, h3⟩ => ⟨ρ', s', h1, h2, h _ _ h3⟩
theorem WP.mono {c : Code} (h : WP P N K c Q s) (hq : ∀ e s, Q e s → Q' e s) : WP P N K c Q' s :=
  fun ρ a w hr => wp_mono (h ρ a w hr) fun _ _ _ q => q.mono hq
theorem WP.seq {x y : Code} (h : WP P N K x (Then (WP P N K y Q) Q) s) : WP P N K (.seq x y) Q s := by
  intro ρ a w hr
  refine wp_seq (wp_mono (h ρ a w hr) ?_)
  rintro e a' w' ⟨ρ', s', h1, h2, h3⟩
  cases e with
  | normal => exact wp_mono (h3 ρ' a' w' h1) fun _ _ _ q => q.tr h2
  | _ => exact ⟨ρ', s', h1, h2, h3⟩
theorem WP.skip (h : Q .normal s) : WP P N K .skip Q s := fun ρ _ _ hr => wp_skip ⟨ρ, s, hr, TrK.refl _ _ _ _, h⟩
theorem WP.exit {id : Nat} (h : Q (.exit id) s) : WP P N K (.exit id) Q s := fun ρ _ _ hr => wp_exit ⟨ρ, s, hr, TrK.refl _ _ _ _, h⟩
theorem WP.ret (h : Q .ret s) : WP P N K .ret Q s := fun ρ _ _ hr => wp_ret ⟨ρ, s, hr, TrK.refl _ _ _ _, h⟩
theorem WP.block {id : Nat} {c : Code} (h : WP P N K c (InBlk id Q) s) : WP P N K (.block id c) Q s := by
  intro ρ a w hr
  refine wp_block (wp_mono (h ρ a w hr) ?_)
  rintro e a' w' ⟨ρ', s', h1, h2, h3⟩
  cases e with
  | exit j =>
    simp only [Exit.inBlock]
    simp only [InBlk] at h3
    split
    · rename_i e; subst e
      rw [show Nat.beq j j = true from Nat.beq_refl j] at h3
      exact ⟨ρ', s', h1, h2, h3⟩
    · rename_i e
      rw [show Nat.beq j id = false from by cases e1 : Nat.beq j id with | false => rfl | true => exact absurd (Nat.eq_of_beq_eq_true e1) e] at h3
      exact ⟨ρ', s', h1, h2, h3⟩
  | _ => exact ⟨ρ', s', h1, h2, h3⟩
theorem WP.cond {fr : Nat → Dat} {m : List Root} {c : Operand} {x y : Code} {b : Bool} (hc : ev fr c = .b b) (ht : b = true → WP P N K x Q ⟨fr, m⟩) (hf : b = false → WP P N K y Q ⟨fr, m⟩) : WP P N K (.cond c x y) Q ⟨fr, m⟩ := by
  intro ρ a w hr
  have h0 := (ev_eq hr.1 hc (by simp)).1
  cases b with
  | true => exact wp_cond_true h0 (ht rfl ρ a w hr)
  | false => exact wp_cond_false h0 (hf rfl ρ a w hr)
theorem WP.loop {c : Code} (I : Nat → St → Prop) (n : Nat) (h0 : I n s) (round : ∀ n s, I n s → WP P N K c (Then (fun s' => ∃ n', n' < n ∧ I n' s') Q) s) : WP P N K (.loop c) Q s := by
  intro ρ a w hr
  refine wp_loop_ghost (fun n a' w' => ∃ ρ' s', Rel N K ρ' s' a' w' ∧ TrK K ρ s.m w ρ' s'.m w' ∧ I n s') n ⟨ρ, s, hr, TrK.refl _ _ _ _, h0⟩ ?_
  rintro n a1 w1 ⟨ρ1, s1, h1, h2, h3⟩
  refine wp_mono (round n s1 h3 ρ1 a1 w1 h1) ?_
  rintro e a' w' ⟨ρ', s', g1, g2, g3⟩
  cases e with
  | normal => obtain ⟨n', hn, hi⟩ := g3; exact ⟨n', hn, ρ', s', g1, h2.trans g2, hi⟩
  | _ => exact ⟨ρ', s', g1, h2.trans g2, g3⟩
def memN : List Nat → Nat → Bool
  | [], _ => false
  | x :: l, t => bif Nat.beq x t then true else memN l t
def look : List (Nat × Dat) → Nat → Dat → Dat
  | [], _, d => d
  | (x, v) :: l, t, d => bif Nat.beq x t then v else look l t d
def hd (S : List Nat) (g : Nat → Dat) (l : List (Nat × Dat)) (fr : Nat → Dat) : Nat → Dat := fun t => look l t (bif memN S t then g t else fr t)
def keysIn (S : List Nat) : List (Nat × Dat) → Bool
  | [] => true
  | (x, _) :: l => bif memN S x then keysIn S l else false
def Agree (S : List Nat) (f g : Nat → Dat) : Prop := ∀ t, memN S t = false → f t = g t
theorem Agree.refl {S : List Nat} {f : Nat → Dat} : Agree S f f := fun _ _ => rfl
theorem Agree.fup {S : List Nat} {f g : Nat → Dat} {t : Nat} {d : Dat} (ht : memN S t = true) (h : Agree S f g) : Agree S (fup f t d) g := fun u hu => by
  rw [fup_ne _ _ (fun e => by rw [e, ht] at hu; cases hu)]; exact h u hu
theorem look_out {S : List Nat} : ∀ {l : List (Nat × Dat)}, keysIn S l = true → ∀ {t : Nat} {d : Dat}, memN S t = false → look l t d = d
  | [], _, t, d, _ => rfl
  | (x, v) :: l, h, t, d, ht => by
    simp only [keysIn] at h
    cases hx : memN S x with
    | false => rw [hx] at h; cases h
    | true =>
      rw [hx] at h
      simp only [look]
      rw [show Nat.beq x t = false from by cases e : Nat.beq x t with | false => rfl | true => rw [Nat.eq_of_beq_eq_true e, ht] at hx; cases hx]
      exact look_out h ht
theorem Agree.hd {S : List Nat} {g fr : Nat → Dat} {l : List (Nat × Dat)} (h : keysIn S l = true) : Agree S (hd S g l fr) fr := fun t ht => by
  unfold DM.hd
  rw [look_out h ht, ht]; rfl
def allIn (S : List Nat) : List Nat → Bool
  | [] => true
  | x :: l => bif memN S x then allIn S l else false
theorem allIn_mem {S : List Nat} : ∀ {S' : List Nat}, allIn S S' = true → ∀ {t : Nat}, memN S t = false → memN S' t = false
  | [], _, t, _ => rfl
  | x :: l, h, t, ht => by
    simp only [allIn] at h
    cases hx : memN S x with
    | false => rw [hx] at h; cases h
    | true =>
      rw [hx] at h
      simp only [memN]
      rw [show Nat.beq x t = false from by cases e : Nat.beq x t with | false => rfl | true => rw [Nat.eq_of_beq_eq_true e, ht] at hx; cases hx]
      exact allIn_mem h ht
theorem Agree.inner {S S' : List Nat} {g fr f : Nat → Dat} {l : List (Nat × Dat)} (h : keysIn S' l = true) (hS : allIn S S' = true) (k : Agree S fr f) : Agree S (DM.hd S' g l fr) f := fun t ht => by
  rw [Agree.hd h t (allIn_mem hS ht)]
  exact k t ht
def Slots (fr : Nat → Dat) : List (Nat × Dat) → Prop
  | [] => True
  | [(x, v)] => fr x = v
  | (x, v) :: y :: l => fr x = v ∧ Slots fr (y :: l)
theorem Slots.cons {fr : Nat → Dat} {x : Nat} {v : Dat} {l : List (Nat × Dat)} (h : Slots fr ((x, v) :: l)) : fr x = v ∧ Slots fr l := by
  cases l with
  | nil => exact ⟨h, trivial⟩
  | cons y l => exact h
theorem look_slots {fr : Nat → Dat} {t : Nat} : ∀ {l : List (Nat × Dat)}, Slots fr l → look l t (fr t) = fr t
  | [], _ => rfl
  | (x, v) :: l, h => by
    obtain ⟨h1, h2⟩ := h.cons
    simp only [look]
    cases e : Nat.beq x t with
    | false => exact look_slots h2
    | true => rw [← Nat.eq_of_beq_eq_true e, h1]; rfl
theorem hd_of {S : List Nat} {l : List (Nat × Dat)} {fr fr' : Nat → Dat} (h1 : Agree S fr' fr) (h2 : Slots fr' l) : fr' = hd S fr' l fr := by
  funext t
  unfold DM.hd
  cases ht : memN S t with
  | true => exact (look_slots h2).symm
  | false =>
    show fr' t = look l t (fr t)
    rw [← h1 t ht]; exact (look_slots h2).symm
theorem WP.loopS {fr : Nat → Dat} {m0 : List Root} {c : Code} {X : Type} (S : List Nat) (C : X → Prop) (l : X → List (Nat × Dat)) (m : X → List Root) (μ : X → Nat) (x0 : X) (h0 : C x0) (hs : Slots fr (l x0)) (hm : m0 = m x0)
    (round : ∀ x, C x → ∀ g, WP P N K c (Then (fun s' => ∃ x', C x' ∧ μ x' < μ x ∧ Agree S s'.fr fr ∧ Slots s'.fr (l x') ∧ s'.m = m x') Q) ⟨hd S g (l x) fr, m x⟩) : WP P N K (.loop c) Q ⟨fr, m0⟩ := by
  refine WP.loop (fun n s' => ∃ x g, n = μ x ∧ C x ∧ s' = ⟨hd S g (l x) fr, m x⟩) (μ x0) ⟨x0, fr, rfl, h0, ?_⟩ ?_
  · rw [← hm, ← hd_of Agree.refl hs]
  · rintro n s1 ⟨x, g, rfl, hC, rfl⟩
    refine (round x hC g).mono ?_
    intro e s' h
    cases e with
    | normal =>
      obtain ⟨x', hC', h1, h2, h3, h4⟩ := h
      refine ⟨μ x', h1, x', s'.fr, rfl, hC', ?_⟩
      cases s' with
      | mk fr' m' =>
        simp only at h4
        rw [h4, ← hd_of h2 h3]
    | _ => exact h
def gd (ops : Array Oper) (o : Oper) (fr : Nat → Dat) : Option Bool :=
  match o.guard with
  | none => some true
  | some (j, b) => match (ops[j]?).bind (·.dst) with
    | some t => match fr t with
      | .b true => some b
      | .b false => some (!b)
      | _ => none
    | none => none
def putO (fr : Nat → Dat) (dst : Option Tmp) (v : Dat) : Nat → Dat :=
  match dst with
  | some t => fup fr t v
  | none => fr
def dstOK (N : Nat) : Option Tmp → Bool
  | some t => Nat.blt t N
  | none => true
def evalOps (T : TyEnv) (wm : Bool) (N : Nat) (ops : Array Oper) : List Oper → (Nat → Dat) → List Root → Option (List Prop × St)
  | [], fr, m => some ([], ⟨fr, m⟩)
  | o :: rest, fr, m => match gd ops o fr with
    | some true => bif dstOK N o.dst then match evalOp T wm o.op fr m with
      | some (ps, v, m') => match evalOps T wm N ops rest (putO fr o.dst v) m' with
        | some (qs, s) => some (ps ++ qs, s)
        | none => none
      | none => none
      else none
    | some false => bif dstOK N o.dst then evalOps T wm N ops rest (putO fr o.dst .un) m else none
    | none => none
theorem WP.region {id : Nat} {l : List Oper} (h : WPL P N K l.toArray Q l s) : WP P N K (.region id l.toArray false) Q s :=
  fun ρ a w hr => wp_region_lit (h ρ a w hr)
theorem WPL.nil {ops : Array Oper} (h : Q .normal s) : WPL P N K ops Q [] s := fun ρ _ _ hr => wpList_nil ⟨ρ, s, hr, TrK.refl _ _ _ _, h⟩
theorem Frm.putO {n : Nat} {ρ : Rho} {fr : Nat → Dat} {a : Act} (hf : Frm n ρ N fr a.tmps) {dst : Option Tmp} (ht : dstOK N dst = true) {d : Dat} {v : Value} (hv : Holds n ρ d v) : Frm n ρ N (putO fr dst d) (a.put dst v).tmps := by
  cases dst with
  | none => exact hf
  | some t => exact hf.put (by simp only [dstOK, Nat.blt_eq] at ht; exact ht) hv
theorem put_defers (a : Act) (dst : Option Tmp) (v : Value) : (a.put dst v).defers = a.defers := by cases dst <;> rfl
theorem gd_wanted {ops : Array Oper} {o : Oper} {fr : Nat → Dat} {n : Nat} {ρ : Rho} {a : Act} {c : Bool} (h : gd ops o fr = some c) (hf : Frm n ρ N fr a.tmps) : Region.wanted o (yielded ops a.tmps) = c := by
  unfold gd at h
  unfold Region.wanted
  split at h
  · rename_i hg; rw [hg]; simpa using h
  · rename_i j b hg
    rw [hg]
    split at h
    · rename_i t ht
      have key : ∀ x, fr t = .b x → yielded ops a.tmps j = some x := by
        intro x hx
        rcases hf.slot t with h1 | ⟨h1, _⟩
        · rw [hx] at h1; cases h1
        · rw [hx] at h1
          unfold yielded
          rw [ht]
          simp only [Option.bind_some]
          rw [Array.getD_eq_getD_getElem?] at h1
          cases hq : a.tmps[t]? with
          | none => rw [hq] at h1; cases h1
          | some u => rw [hq] at h1; simp only [Option.getD_some, enc, leaf] at h1; rw [h1]
      split at h
      · rename_i hx; simp only [key _ hx]; simp only [Option.some.injEq] at h; subst h; cases b <;> rfl
      · rename_i hx; simp only [key _ hx]; simp only [Option.some.injEq] at h; subst h; cases b <;> rfl
      · cases h
    · cases h
theorem WPL.op {ops : Array Oper} {o : Oper} {rest : List Oper} {fr : Nat → Dat} {m m' : List Root} {v : Dat} (hg : gd ops o fr = some true) (hd : dstOK N o.dst = true) (ho : OpOK P o fr m v m')
    (h : WPL P N K ops Q rest ⟨putO fr o.dst v, m'⟩) : WPL P N K ops Q (o :: rest) ⟨fr, m⟩ := by
  intro ρ a w ⟨hf, hdf, hr, hK⟩
  refine wpList_step fun Kc hKc => ?_
  rw [if_pos (gd_wanted hg hf)]
  obtain ⟨ρ', w', nx, h1, h2, h3, h4⟩ := ho N ρ a w hf hr
  have fin : ∀ u, Holds m'.length ρ' v u → Kc (a.put o.dst u) w' := by
    intro u hu
    refine hKc _ _ ?_
    have hrel : Rel N K ρ' ⟨putO fr o.dst v, m'⟩ (a.put o.dst u) w' := ⟨(hf.tr h4).putO hd hu, by rw [put_defers]; exact hdf, h3, Nat.le_trans hK h4.len⟩
    have := h ρ' (a.put o.dst u) w' hrel
    have hmono : ∀ (l : List Oper) (a : Act) (w'' : World), wpList P ops (Real N K ρ' ⟨putO fr o.dst v, m'⟩ w' Q) l a w'' → wpList P ops (Real N K ρ ⟨fr, m⟩ w Q) l a w'' := by
      intro l a w'' hh
      exact wpList_mono (fun e a w q => Real.tr (s := ⟨fr, m⟩) (s1 := ⟨putO fr o.dst v, m'⟩) (h4.toK hK) q) l a w'' hh
    exact hmono _ _ _ this
  unfold Oper.wp
  rw [h1]
  rcases h2 with ⟨u, rfl, hu⟩ | ⟨rfl, rfl⟩
  · exact fin u hu
  · exact fin undef (.inl rfl)
theorem WPL.skip {ops : Array Oper} {o : Oper} {rest : List Oper} {fr : Nat → Dat} {m : List Root} (hg : gd ops o fr = some false) (hd : dstOK N o.dst = true)
    (h : WPL P N K ops Q rest ⟨putO fr o.dst .un, m⟩) : WPL P N K ops Q (o :: rest) ⟨fr, m⟩ := by
  intro ρ a w ⟨hf, hdf, hr, hK⟩
  refine wpList_step fun Kc hKc => ?_
  rw [if_neg (by rw [gd_wanted hg hf]; simp)]
  exact hKc _ _ (h ρ _ w ⟨hf.putO hd (.inl rfl), by rw [put_defers]; exact hdf, hr, hK⟩)
theorem evalOps_ok {T : TyEnv} (hT : TOK P T) {wm : Bool} {ops : Array Oper} : ∀ {l k : List Oper} {fr : Nat → Dat} {m : List Root} {ps : List Prop} {s' : St}, evalOps T wm N ops l fr m = some (ps, s') → AllP ps →
    WPL P N K ops Q k s' → WPL P N K ops Q (l ++ k) ⟨fr, m⟩
  | [], k, fr, m, ps, s', h, _, hk => by
    simp only [evalOps, Option.some.injEq, Prod.mk.injEq] at h
    obtain ⟨_, rfl⟩ := h
    exact hk
  | o :: l, k, fr, m, ps, s', h, hp, hk => by
    simp only [evalOps] at h
    split at h
    · rename_i hg
      cases hd : dstOK N o.dst with
      | false => rw [hd] at h; cases h
      | true =>
        rw [hd] at h
        simp only [cond_true] at h
        split at h
        · rename_i ps1 v m1 he
          split at h
          · rename_i qs s1 hr
            simp only [Option.some.injEq, Prod.mk.injEq] at h
            obtain ⟨rfl, rfl⟩ := h
            obtain ⟨hp1, hp2⟩ := hp.app
            exact WPL.op hg hd (evalOp_ok hT he hp1) (evalOps_ok hT hr hp2 hk)
          · cases h
        · cases h
    · rename_i hg
      cases hd : dstOK N o.dst with
      | false => rw [hd] at h; cases h
      | true =>
        rw [hd] at h
        exact WPL.skip hg hd (evalOps_ok hT h hp hk)
    · cases h
def fR {α : Type} (r : Root) (k : Root → α) : α := match r with
  | .dead => k .dead
  | .mp b l => k (.mp b l)
  | .var d => fD d fun d => k (.var d)
  | .row e n s f => k (.row e n s f)
  | .ro n s f => k (.ro n s f)
theorem fR_eq {α : Type} (r : Root) (k : Root → α) : fR r k = k r := by
  cases r with
  | var d => exact fD_eq d (fun d => k (.var d))
  | _ => rfl
def fM {α : Type} (m : List Root) (k : List Root → α) : α := match m with
  | [] => k []
  | r :: l => fR r fun r => fM l fun l => k (r :: l)
theorem fM_eq {α : Type} : ∀ (m : List Root) (k : List Root → α), fM m k = k m
  | [], _ => rfl
  | r :: l, k => by rw [fM, fR_eq, fM_eq l]
def evF (T : TyEnv) (wm : Bool) (N : Nat) (ops : Array Oper) (l : List Oper) (fr : Nat → Dat) (m : List Root) (acc : List Prop) : Option (List Prop × St) := match l with
  | [] => some (acc, ⟨fr, m⟩)
  | o :: rest => match gd ops o fr with
    | some true => bif dstOK N o.dst then match evalOp T wm o.op fr m with
      | some (ps, v, m') => fD v fun v => fM m' fun m' => match o.dst with
        | some t => evF T wm N ops rest (fup fr t v) m' (acc ++ ps)
        | none => evF T wm N ops rest fr m' (acc ++ ps)
      | none => none
      else none
    | some false => bif dstOK N o.dst then match o.dst with
        | some t => evF T wm N ops rest (fup fr t .un) m acc
        | none => evF T wm N ops rest fr m acc
      else none
    | none => none
theorem evF_eq {T : TyEnv} {wm : Bool} {ops : Array Oper} : ∀ {l : List Oper} {fr : Nat → Dat} {m : List Root} {acc ps : List Prop} {s' : St}, evF T wm N ops l fr m acc = some (ps, s') → ∃ qs, ps = acc ++ qs ∧ evalOps T wm N ops l fr m = some (qs, s')
  | [], fr, m, acc, ps, s', h => by
    simp only [evF, Option.some.injEq, Prod.mk.injEq] at h
    obtain ⟨rfl, rfl⟩ := h
    exact ⟨[], by simp, rfl⟩
  | o :: l, fr, m, acc, ps, s', h => by
    simp only [evF] at h
    split at h
    · rename_i hg
      cases hd : dstOK N o.dst with
      | false => rw [hd] at h; cases h
      | true =>
        rw [hd] at h
        simp only [cond_true] at h
        split at h
        · rename_i ps1 v m1 he
          rw [fD_eq, fM_eq] at h
          split at h
          · rename_i t ht
            obtain ⟨qs, rfl, h2⟩ := evF_eq h
            refine ⟨ps1 ++ qs, by simp, ?_⟩
            simp only [evalOps, hg, hd, cond_true, he]
            simp only [putO, ht, h2]
          · rename_i ht
            obtain ⟨qs, rfl, h2⟩ := evF_eq h
            refine ⟨ps1 ++ qs, by simp, ?_⟩
            simp only [evalOps, hg, hd, cond_true, he]
            simp only [putO, ht, h2]
        · cases h
    · rename_i hg
      cases hd : dstOK N o.dst with
      | false => rw [hd] at h; cases h
      | true =>
        rw [hd] at h
        simp only [cond_true] at h
        split at h
        · rename_i t ht
          obtain ⟨qs, rfl, h2⟩ := evF_eq h
          refine ⟨qs, rfl, ?_⟩
          simp only [evalOps, hg, hd, cond_true]
          simp only [putO, ht, h2]
        · rename_i ht
          obtain ⟨qs, rfl, h2⟩ := evF_eq h
          refine ⟨qs, rfl, ?_⟩
          simp only [evalOps, hg, hd, cond_true]
          simp only [putO, ht, h2]
    · cases h
theorem evF_nil {T : TyEnv} {wm : Bool} {ops : Array Oper} {l : List Oper} {fr : Nat → Dat} {m : List Root} {ps : List Prop} {s' : St} (h : evF T wm N ops l fr m [] = some (ps, s')) : evalOps T wm N ops l fr m = some (ps, s') := by
  obtain ⟨qs, rfl, h2⟩ := evF_eq h
  simpa using h2
theorem WPL.run {fr : Nat → Dat} {m : List Root} (T : TyEnv) (wm : Bool) (n : Nat) (hT : TOK P T) {ops : Array Oper} {l : List Oper} {ps : List Prop} {fr' : Nat → Dat} {m' : List Root} (h : evF T wm N ops (l.take n) fr m [] = some (ps, ⟨fr', m'⟩)) (hp : AllP ps)
    (k : WPL P N K ops Q (l.drop n) ⟨fr', m'⟩) : WPL P N K ops Q l ⟨fr, m⟩ := by
  have := evalOps_ok (Q := Q) hT (evF_nil h) hp k
  rwa [List.take_append_drop] at this
theorem WP.run {fr : Nat → Dat} {m : List Root} (T : TyEnv) (wm : Bool) (hT : TOK P T) {id : Nat} {l : List Oper} {ps : List Prop} {fr' : Nat → Dat} {m' : List Root} (h : evF T wm N l.toArray l fr m [] = some (ps, ⟨fr', m'⟩)) (hp : AllP ps)
    (k : Q .normal ⟨fr', m'⟩) : WP P N K (.region id l.toArray false) Q ⟨fr, m⟩ :=
  WP.region (by
    have := evalOps_ok (Q := Q) (K := K) (k := []) hT (evF_nil h) hp (WPL.nil k)
    rwa [List.append_nil] at this)
end
end Go.Proofs.Ythjnmlpibafbnaa.DM
