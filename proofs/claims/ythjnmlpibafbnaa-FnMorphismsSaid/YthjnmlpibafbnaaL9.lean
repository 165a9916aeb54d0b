import Derived.Test.YthjnmlpibafbnaaD17
import Derived.Test.YthjnmlpibafbnaaL0
import Derived.Test.YthjnmlpibafbnaaD37
import Derived.Test.YthjnmlpibafbnaaX143
import Derived.Test.YthjnmlpibafbnaaL3
namespace Go.Proofs.Ythjnmlpibafbnaa.DM
open Go.RowKit
def dropO : Nat → Code → Option Code
  | 0, c => some c
  | k + 1, .seq _ b => dropO k b
  | _ + 1, _ => none
theorem WP.share {P : Program} {N K : Nat} {Q : Exit → St → Prop} {s : St} (k : Nat) (s1 : St) {c d : Code} (_hd : dropO k c = some d) (hr : WP P N K d Q s1) (h : WP P N K d Q s1 → WP P N K c Q s) : WP P N K c Q s := h hr
theorem WP.seqX {P : Program} {N K : Nat} {Q : Exit → St → Prop} {x y : Code} {s : St} {α : Type} (C : α → Prop) (I : α → St) (h : WP P N K x (Then (fun s' => ∃ z, C z ∧ Ghost K s' (I z)) Q) s) (k : ∀ z, C z → WP P N K y Q (I z)) : WP P N K (.seq x y) Q s := by
  refine WP.seq (h.mono ?_)
  intro e s' h
  cases e with
  | normal =>
    obtain ⟨z, hz, hg⟩ := h
    exact WP.ghost hg (k z hz)
  | _ => exact h
end Go.Proofs.Ythjnmlpibafbnaa.DM

namespace Go.Proofs.Ythjnmlpibafbnaa
open Go.RowKit DM
set_option linter.unusedSimpArgs false
set_option linter.unusedVariables false
set_option maxRecDepth 100000
set_option maxHeartbeats 1000000
theorem wq {N K n fuel i : Nat} {Q : Exit → St → Prop} {ops : Array Oper} {listed : Array Bool} {fr : Nat → Dat} {m m' : List Root} {o : Oper} {v : Dat} {ps : List Prop} (k : WA Try.prog N K ops Q n fuel (listed.setIfInBounds i true) ⟨putO fr o.dst v, m'⟩) (ho : ops[i]? = some o := by rfl) (hq : isQ o.op = true := by rfl) (h : evalOp T false o.op fr m = some (ps, v, m') := by rfl) (hg : gd ops o fr = some true := by rfl) (hd : dstOK N o.dst = true := by rfl) (hp : AllP ps := by exact byObl) : WAE2 Try.prog N K ops Q n fuel listed fr m i := WAE2.q tok ho hq h hg hd hp k
theorem wt {N K n fuel i : Nat} {Q : Exit → St → Prop} {ops : Array Oper} {listed : Array Bool} {fr : Nat → Dat} {m m' : List Root} {o : Oper} {v : Dat} {ps : List Prop} (k : WA Try.prog N K ops Q n fuel (listed.setIfInBounds i true) ⟨putO fr o.dst v, m'⟩) (hn : n ≤ i := by decide) (ho : ops[i]? = some o := by rfl) (h : evalOp T false o.op fr m = some (ps, v, m') := by rfl) (hg : gd ops o fr = some true := by rfl) (hd : dstOK N o.dst = true := by rfl) (hp : AllP ps := by exact byObl) : WAE2 Try.prog N K ops Q n fuel listed fr m i := WAE2.t tok hn ho h hg hd hp k
theorem wC {N K n fuel : Nat} {Q : Exit → St → Prop} {ops : Array Oper} {listed : Array Bool} {fr : Nat → Dat} {m : List Root} (ts : List Nat) (l : List (Nat × Dat)) (m' : List Root) (h : LeAll K m ts m') (k : WA Try.prog N K ops Q n fuel listed ⟨lst l, m'⟩) (hd : DM.distinct ts = true := by rfl) (hs : startsWith K 0 ts = true := by rfl) (hl : SlotsR (tauOf ts) m'.length fr l := by exact bySlots) : WA Try.prog N K ops Q n fuel listed ⟨fr, m⟩ := WA.cut (tauOf ts) K l m' (Nat.le_refl _) (Taken.of ts h hd hs) hl k
theorem w1 {N K n fuel : Nat} {Q : Exit → St → Prop} {ops : Array Oper} {listed : Array Bool} {fr : Nat → Dat} {m : List Root} (i : Nat) (h : WAE2 Try.prog N K ops Q n fuel listed fr m i) (hr : Region.ready .any ops listed = [i] := by kernel_rfl) : WA Try.prog N K ops Q n (fuel + 1) listed ⟨fr, m⟩ := WA.allTE1 i hr h
theorem w2 {N K n fuel : Nat} {Q : Exit → St → Prop} {ops : Array Oper} {listed : Array Bool} {fr : Nat → Dat} {m : List Root} (i j : Nat) (h : WAE2 Try.prog N K ops Q n fuel listed fr m i) (h2 : WAE2 Try.prog N K ops Q n fuel listed fr m j) (hr : Region.ready .any ops listed = [i, j] := by kernel_rfl) : WA Try.prog N K ops Q n (fuel + 1) listed ⟨fr, m⟩ := WA.allTE2 i j hr h h2
theorem w3 {N K n fuel : Nat} {Q : Exit → St → Prop} {ops : Array Oper} {listed : Array Bool} {fr : Nat → Dat} {m : List Root} (i j l : Nat) (h : WAE2 Try.prog N K ops Q n fuel listed fr m i) (h2 : WAE2 Try.prog N K ops Q n fuel listed fr m j) (h3 : WAE2 Try.prog N K ops Q n fuel listed fr m l) (hr : Region.ready .any ops listed = [i, j, l] := by kernel_rfl) : WA Try.prog N K ops Q n (fuel + 1) listed ⟨fr, m⟩ := WA.allTE3 i j l hr h h2 h3
def DrB (n : Int) (b w : Nat → Nat) : Prop := -1 ≤ n ∧ n ≤ 17 ∧ Bt 256 b ∧ Bt 256 w
theorem wE {N K n fuel i : Nat} {Q : Exit → St → Prop} {ops : Array Oper} {listed : Array Bool} {fr : Nat → Dat} {m : List Root} {dst : Tmp} {f : FuncId} {args : List Operand} {tys : Array TypeId} {t : TypeId} {pos : String} {after : Array Edge} {gg : Option (Nat × Bool)} {xs : List Dat} {d0 : Dat} {Qf : Dat → List Root → Prop} {α : Type} (C : α → Prop) (R S : α → Dat) (M : α → List Root) (h : FnS Try.prog f xs [.var d0] Qf) (hQ : ∀ r m', Qf r m' → ∃ x, C x ∧ r = R x ∧ m' = [.var (S x)]) (hR : ∀ x τ, renD τ (R x) (R x)) (hRs : ∀ x k, Sc k (R x)) (hSs : ∀ x k, Sc k (S x)) (hl : LeAll 0 m [3] [.var d0]) (hk : sameKind m [3] [.var d0] = true) (hx : ArgsR (tauOf [3]) fr xs args) (hsc : ∀ x ∈ xs, Sc 1 x) (ho : ops[i]? = some { dst := some dst, op := .call { callee := .value (.func f), args := args.toArray, argTypes := tys }, type := t, pos := pos, after := after, guard := gg }) (hn : n ≤ i) (hg : gd ops { dst := some dst, op := .call { callee := .value (.func f), args := args.toArray, argTypes := tys }, type := t, pos := pos, after := after, guard := gg } fr = some true) (hd : dstOK N (some dst) = true) (hM : ∀ x, putBack m [3] [.var d0] [.var (S x)] = M x) (k : ∀ x, C x → WA Try.prog N K ops Q n fuel (listed.setIfInBounds i true) ⟨putO fr (some dst) (R x), M x⟩) : WAE2 Try.prog N K ops Q n fuel listed fr m i :=
  ⟨_, fun v m' => ∃ x, C x ∧ v = R x ∧ m' = M x, ho, hg, hd, .inr ⟨hn, TKE.call [3] h hl hk rfl hx hsc fun r m1 hq => by
    obtain ⟨x, hc, rfl, rfl⟩ := hQ r m1 hq
    exact ⟨⟨fun d hd => by cases hd; exact hSs x _, trivial⟩, R x, hR x _, hRs x _, x, hc, rfl, hM x⟩⟩, fun v m' ⟨x, hc, e1, e2⟩ => by subst e1; subst e2; exact k x hc⟩
theorem wNx {N K n fuel i : Nat} {Q : Exit → St → Prop} {ops : Array Oper} {listed : Array Bool} {fr : Nat → Dat} {m : List Root} {dst : Tmp} {f : FuncId} {args : List Operand} {tys : Array TypeId} {t : TypeId} {pos : String} {after : Array Edge} {gg : Option (Nat × Bool)} {xs : List Dat} {len a : Nat} {g : Nat → Nat} {h : Int} {nn : Int} (M : Nat → Int → List Root) (hs : FnS Try.prog f xs [.var (srcD len g a h)] fun r m' => ∃ (x : Int) (a' : Nat) (h' : Int), r = .i .i64 x ∧ (1 ≤ nn → 0 ≤ x ∧ x < nn) ∧ (nn < 1 → x = 0) ∧ a' ≤ len ∧ m' = [.var (srcD len g a' h')]) (k : ∀ (y : Int) (a' : Nat) (h' : Int), (1 ≤ nn → 0 ≤ y ∧ y < nn) → a' ≤ len → WA Try.prog N K ops Q n fuel (listed.setIfInBounds i true) ⟨putO fr (some dst) (.i .i64 y), M a' h'⟩) (ho : ops[i]? = some { dst := some dst, op := .call { callee := .value (.func f), args := args.toArray, argTypes := tys }, type := t, pos := pos, after := after, guard := gg } := by rfl) (hl : LeAll 0 m [3] [.var (srcD len g a h)] := by exact leC leZ) (hk : sameKind m [3] [.var (srcD len g a h)] = true := by rfl) (hx : ArgsR (tauOf [3]) fr xs args := by exact byArgs) (hsc : ∀ x ∈ xs, Sc 1 x := by simp [Sc, sc_pl, sc_ds]) (hn : n ≤ i := by decide) (hg : gd ops { dst := some dst, op := .call { callee := .value (.func f), args := args.toArray, argTypes := tys }, type := t, pos := pos, after := after, guard := gg } fr = some true := by rfl) (hd : dstOK N (some dst) = true := by rfl) (hM : ∀ a' h', putBack m [3] [.var (srcD len g a h)] [.var (srcD len g a' h')] = M a' h' := by intro _ _; rfl) : WAE2 Try.prog N K ops Q n fuel listed fr m i :=
  wE (α := Int × Nat × Int) (fun z => (1 ≤ nn → 0 ≤ z.1 ∧ z.1 < nn) ∧ z.2.1 ≤ len) (fun z => .i .i64 z.1) (fun z => srcD len g z.2.1 z.2.2) (fun z => M z.2.1 z.2.2) hs (fun r m' ⟨x, a', h', e1, q1, _, q3, e2⟩ => ⟨(x, a', h'), ⟨q1, q3⟩, e1, e2⟩) (fun x τ => ⟨rfl, trivial⟩) (fun _ _ => trivial) (fun _ _ => sc_src _ _ _ _ _) hl hk hx hsc ho hn hg hd (fun _ => hM _ _) (fun z hz => k z.1 z.2.1 z.2.2 hz.1 hz.2)
theorem wSo {N K n fuel i : Nat} {Q : Exit → St → Prop} {ops : Array Oper} {listed : Array Bool} {fr : Nat → Dat} {m : List Root} {dst : Tmp} {f : FuncId} {args : List Operand} {tys : Array TypeId} {t : TypeId} {pos : String} {after : Array Edge} {gg : Option (Nat × Bool)} {xs : List Dat} {len a : Nat} {g : Nat → Nat} {h : Int} (M : Nat → Int → List Root) (hs : FnS Try.prog f xs [.var (srcD len g a h)] fun r m' => ∃ (n : Int) (b w : Nat → Nat) (a' : Nat) (h' : Int), r = ds_ n b w ∧ -1 ≤ n ∧ n ≤ 17 ∧ Bt 256 b ∧ Bt 256 w ∧ a' ≤ len ∧ m' = [.var (srcD len g a' h')]) (k : ∀ (y : Int) (b' w' : Nat → Nat) (a' : Nat) (h' : Int), DrB y b' w' → a' ≤ len → WA Try.prog N K ops Q n fuel (listed.setIfInBounds i true) ⟨putO fr (some dst) (ds_ y b' w'), M a' h'⟩) (ho : ops[i]? = some { dst := some dst, op := .call { callee := .value (.func f), args := args.toArray, argTypes := tys }, type := t, pos := pos, after := after, guard := gg } := by rfl) (hl : LeAll 0 m [3] [.var (srcD len g a h)] := by exact leC leZ) (hk : sameKind m [3] [.var (srcD len g a h)] = true := by rfl) (hx : ArgsR (tauOf [3]) fr xs args := by exact byArgs) (hsc : ∀ x ∈ xs, Sc 1 x := by simp [Sc, sc_pl, sc_ds]) (hn : n ≤ i := by decide) (hg : gd ops { dst := some dst, op := .call { callee := .value (.func f), args := args.toArray, argTypes := tys }, type := t, pos := pos, after := after, guard := gg } fr = some true := by rfl) (hd : dstOK N (some dst) = true := by rfl) (hM : ∀ a' h', putBack m [3] [.var (srcD len g a h)] [.var (srcD len g a' h')] = M a' h' := by intro _ _; rfl) : WAE2 Try.prog N K ops Q n fuel listed fr m i :=
  wE (α := Int × (Nat → Nat) × (Nat → Nat) × Nat × Int) (fun z => DrB z.1 z.2.1 z.2.2.1 ∧ z.2.2.2.1 ≤ len) (fun z => ds_ z.1 z.2.1 z.2.2.1) (fun z => srcD len g z.2.2.2.1 z.2.2.2.2) (fun z => M z.2.2.2.1 z.2.2.2.2) hs (fun r m' ⟨x, b', w', a', h', e1, q1, q2, q3, q4, q5, e2⟩ => ⟨(x, b', w', a', h'), ⟨⟨q1, q2, q3, q4⟩, q5⟩, e1, e2⟩) (fun x τ => ⟨rfl, sc_ds _ _ _ _⟩) (fun _ _ => sc_ds _ _ _ _) (fun _ _ => sc_src _ _ _ _ _) hl hk hx hsc ho hn hg hd (fun _ => hM _ _) (fun z hz => k z.1 z.2.1 z.2.2.1 z.2.2.2.1 z.2.2.2.2 hz.1 hz.2)
theorem wDp {N K n fuel i : Nat} {Q : Exit → St → Prop} {ops : Array Oper} {listed : Array Bool} {fr : Nat → Dat} {m : List Root} {dst : Tmp} {f : FuncId} {args : List Operand} {tys : Array TypeId} {t : TypeId} {pos : String} {after : Array Edge} {gg : Option (Nat × Bool)} {xs : List Dat} {len a : Nat} {g : Nat → Nat} {h : Int} {nn : Int} (M : Nat → Int → List Root) (hs : FnS Try.prog f xs [.var (srcD len g a h)] fun r m' => ∃ (p : Nat → Nat) (a' : Nat) (h' : Int), r = pl p ∧ Bt (bN nn) p ∧ a' ≤ len ∧ m' = [.var (srcD len g a' h')]) (k : ∀ (p : Nat → Nat) (a' : Nat) (h' : Int), Bt (bN nn) p → a' ≤ len → WA Try.prog N K ops Q n fuel (listed.setIfInBounds i true) ⟨putO fr (some dst) (pl p), M a' h'⟩) (ho : ops[i]? = some { dst := some dst, op := .call { callee := .value (.func f), args := args.toArray, argTypes := tys }, type := t, pos := pos, after := after, guard := gg } := by rfl) (hl : LeAll 0 m [3] [.var (srcD len g a h)] := by exact leC leZ) (hk : sameKind m [3] [.var (srcD len g a h)] = true := by rfl) (hx : ArgsR (tauOf [3]) fr xs args := by exact byArgs) (hsc : ∀ x ∈ xs, Sc 1 x := by simp [Sc, sc_pl, sc_ds]) (hn : n ≤ i := by decide) (hg : gd ops { dst := some dst, op := .call { callee := .value (.func f), args := args.toArray, argTypes := tys }, type := t, pos := pos, after := after, guard := gg } fr = some true := by rfl) (hd : dstOK N (some dst) = true := by rfl) (hM : ∀ a' h', putBack m [3] [.var (srcD len g a h)] [.var (srcD len g a' h')] = M a' h' := by intro _ _; rfl) : WAE2 Try.prog N K ops Q n fuel listed fr m i :=
  wE (α := (Nat → Nat) × Nat × Int) (fun z => Bt (bN nn) z.1 ∧ z.2.1 ≤ len) (fun z => pl z.1) (fun z => srcD len g z.2.1 z.2.2) (fun z => M z.2.1 z.2.2) hs (fun r m' ⟨x, a', h', e1, q1, q3, e2⟩ => ⟨(x, a', h'), ⟨q1, q3⟩, e1, e2⟩) (fun x τ => ⟨rfl, sc_pl _ _⟩) (fun _ _ => sc_pl _ _) (fun _ _ => sc_src _ _ _ _ _) hl hk hx hsc ho hn hg hd (fun _ => hM _ _) (fun z hz => k z.1 z.2.1 z.2.2 hz.1 hz.2)
end Go.Proofs.Ythjnmlpibafbnaa

namespace Go.Proofs.Ythjnmlpibafbnaa
open Go.RowKit DM
set_option linter.unusedVariables false
inductive Gen (b w : Nat → Nat) (x y : Nat) : Nat → Nat → Prop where
  | base : Gen b w x y x y
  | refl (i : Nat) : Gen b w x y i i
  | symm {i j : Nat} : Gen b w x y i j → Gen b w x y j i
  | trans {i j k : Nat} : Gen b w x y i j → Gen b w x y j k → Gen b w x y i k
  | stepB {i j : Nat} : Gen b w x y i j → Gen b w x y (b i) (b j)
  | stepW {i j : Nat} : Gen b w x y i j → Gen b w x y (w i) (w j)
inductive Cls (f : Nat → Nat) (P : List (Nat × Nat)) : Nat → Nat → Prop where
  | cls {i j : Nat} : f i = f j → Cls f P i j
  | pend {i j : Nat} : (i, j) ∈ P → Cls f P i j
  | symm {i j : Nat} : Cls f P i j → Cls f P j i
  | trans {i j k : Nat} : Cls f P i j → Cls f P j k → Cls f P i k
theorem Cls.mono {f f' : Nat → Nat} {P P' : List (Nat × Nat)} (h1 : ∀ i j, f i = f j → Cls f' P' i j) (h2 : ∀ i j, (i, j) ∈ P → Cls f' P' i j) {i j : Nat} (h : Cls f P i j) : Cls f' P' i j := by
  induction h with
  | cls h => exact h1 _ _ h
  | pend h => exact h2 _ _ h
  | symm _ ih => exact .symm ih
  | trans _ _ h3 h4 => exact .trans h3 h4
theorem Cls.nil {f : Nat → Nat} {i j : Nat} (h : Cls f [] i j) : f i = f j := by
  induction h with
  | cls h => exact h
  | pend h => simp at h
  | symm _ ih => exact ih.symm
  | trans _ _ h3 h4 => exact h3.trans h4
structure BlkInv (n : Nat) (b w : Nat → Nat) (x y : Nat) (f : Nat → Nat) (P : List (Nat × Nat)) : Prop where
  gen : ∀ i j, f i = f j → Gen b w x y i j
  pgen : ∀ i j, (i, j) ∈ P → Gen b w x y i j
  lt : ∀ i j, (i, j) ∈ P → i < n ∧ j < n
  base : Cls f P x y
  keepB : ∀ i j, f i = f j → Cls f P (b i) (b j)
  keepW : ∀ i j, f i = f j → Cls f P (w i) (w j)
  rep : ∀ i, i < n → f i < n ∧ f (f i) = f i
  out : ∀ i, n ≤ i → f i = i
theorem BlkInv.done {n : Nat} {b w : Nat → Nat} {x y : Nat} {f : Nat → Nat} (h : BlkInv n b w x y f []) (i j : Nat) : f i = f j ↔ Gen b w x y i j := by
  refine ⟨h.gen i j, fun g => ?_⟩
  induction g with
  | base => exact h.base.nil
  | refl => rfl
  | symm _ ih => exact ih.symm
  | trans _ _ h1 h2 => exact h1.trans h2
  | stepB _ ih => exact (h.keepB _ _ ih).nil
  | stepW _ ih => exact (h.keepW _ _ ih).nil
theorem BlkInv.start {n : Nat} {b w : Nat → Nat} {x y : Nat} (hx : x < n) (hy : y < n) : BlkInv n b w x y (fun i => i) [(x, y)] where
  gen := fun i j h => by
    have h : i = j := h
    subst h; exact .refl _
  pgen := fun i j h => by simp at h; obtain ⟨rfl, rfl⟩ := h; exact .base
  lt := fun i j h => by simp at h; obtain ⟨rfl, rfl⟩ := h; exact ⟨hx, hy⟩
  base := .pend (by simp)
  keepB := fun i j h => by
    have h : i = j := h
    subst h; exact .cls rfl
  keepW := fun i j h => by
    have h : i = j := h
    subst h; exact .cls rfl
  rep := fun i hi => ⟨hi, rfl⟩
  out := fun i _ => rfl
theorem BlkInv.perm {n : Nat} {b w : Nat → Nat} {x y : Nat} {f : Nat → Nat} {P P' : List (Nat × Nat)} (h : BlkInv n b w x y f P) (hp : ∀ p, p ∈ P ↔ p ∈ P') : BlkInv n b w x y f P' where
  gen := h.gen
  pgen := fun i j hi => h.pgen i j ((hp _).2 hi)
  lt := fun i j hi => h.lt i j ((hp _).2 hi)
  base := h.base.mono (fun _ _ e => .cls e) (fun _ _ e => .pend ((hp _).1 e))
  keepB := fun i j e => (h.keepB i j e).mono (fun _ _ e => .cls e) (fun _ _ e => .pend ((hp _).1 e))
  keepW := fun i j e => (h.keepW i j e).mono (fun _ _ e => .cls e) (fun _ _ e => .pend ((hp _).1 e))
  rep := h.rep
  out := h.out
theorem BlkInv.skip {n : Nat} {b w : Nat → Nat} {x y : Nat} {f : Nat → Nat} {P : List (Nat × Nat)} {i0 j0 : Nat} (h : BlkInv n b w x y f ((i0, j0) :: P)) (e : f i0 = f j0) : BlkInv n b w x y f P := by
  have key : ∀ i j, (i, j) ∈ (i0, j0) :: P → Cls f P i j := fun i j hi => by
    simp only [List.mem_cons, Prod.mk.injEq] at hi
    rcases hi with ⟨rfl, rfl⟩ | hi
    · exact .cls e
    · exact .pend hi
  exact ⟨h.gen, fun i j hi => h.pgen i j (List.mem_cons_of_mem _ hi), fun i j hi => h.lt i j (List.mem_cons_of_mem _ hi), h.base.mono (fun _ _ e => .cls e) key, fun i j e => (h.keepB i j e).mono (fun _ _ e => .cls e) key, fun i j e => (h.keepW i j e).mono (fun _ _ e => .cls e) key, h.rep, h.out⟩
noncomputable def blkL (n : Nat) (b w : Nat → Nat) (x y : Nat) : List Nat := (List.range n).filter fun i => @decide (Gen b w x y i x) (Classical.propDecidable _)
def fltL (f : Nat → Nat) (c k : Nat) : List Nat := (List.range k).filter fun i => decide (f i = c)
theorem BlkInv.list {n : Nat} {b w : Nat → Nat} {x y : Nat} {f : Nat → Nat} (h : BlkInv n b w x y f []) : fltL f (f x) n = blkL n b w x y := by
  unfold fltL blkL
  refine List.filter_congr fun i _ => ?_
  have := h.done i x
  by_cases c : f i = f x
  · simp [c, this.1 c]
  · have : ¬ Gen b w x y i x := fun g => c (this.2 g)
    simp [c, this]
theorem BlkInv.last {n : Nat} {b w : Nat → Nat} {x y : Nat} {f : Nat → Nat} {P : List (Nat × Nat)} {p : Nat × Nat} (h : BlkInv n b w x y f (P ++ [p])) : BlkInv n b w x y f (p :: P) := h.perm fun q => by simp; exact or_comm
def prI (p : Nat × Nat) : Nat → Dat := fup (fup (fun _ => .i .i64 0) 0 (.i .i64 (p.1 : Int))) 1 (.i .i64 (p.2 : Int))
def prF (P : List (Nat × Nat)) (j : Nat) : Dat := .ar 2 1 (prI (P.getD j (0, 0)))
theorem sc_prI (k : Nat) (p : Nat × Nat) (i : Nat) : Sc k (prI p i) := by
  unfold prI fup
  cases Nat.beq i 1
  · cases Nat.beq i 0 <;> trivial
  · trivial
theorem sc_prv (k : Nat) (p : Nat × Nat) : Sc k (.ar 2 1 (prI p)) := fun i _ => sc_prI k p i
theorem sc_prow (k n : Nat) (e : Go.TypeId) (P : List (Nat × Nat)) : Sc k (.ow e n 2 (prF P)) := fun i _ => sc_prv k _
theorem pl_prI (p : Nat × Nat) (i : Nat) : Pl (prI p i) := by
  unfold prI fup
  cases Nat.beq i 1
  · cases Nat.beq i 0 <;> trivial
  · trivial
theorem pl_prv (p : Nat × Nat) : Pl (.ar 2 1 (prI p)) := fun i _ => pl_prI p i
def nmF (f : Nat → Nat) (j : Nat) : Dat := .i .i64 ((f j : Nat) : Int)
theorem nm_up (f : Nat → Nat) (k v : Nat) : nmF (up f k v) = fup (nmF f) k (.i .i64 ((v : Nat) : Int)) := by
  funext j
  unfold nmF up fup
  by_cases h : j = k
  · subst h; simp
  · rw [if_neg h, show Nat.beq j k = false from by cases e : Nat.beq j k with | false => rfl | true => exact absurd (Nat.eq_of_beq_eq_true e) h]; rfl
end Go.Proofs.Ythjnmlpibafbnaa
