/- Rules joined, for walking a function's text. -/
import Derived.Test.YtakpeibmaejmeaaD10
namespace Go.Proofs.Ytakpeibmaejmeaa.DM
open Go.RowKit

section
variable {P : Program} {N K : Nat} {Q Q' : Exit → St → Prop} {s : St}

/-- A region, run as a whole, then the rest. -/
theorem WP.rs {fr : Nat → Dat} {m : List Root} (T : TyEnv) (wm : Bool) (hT : TOK P T) {id : Nat} {l : List Oper} {y : Code} {ps : List Prop} {fr' : Nat → Dat} {m' : List Root} (h : evF T wm N l.toArray l fr m [] = some (ps, ⟨fr', m'⟩)) (hp : AllP ps)
    (k : WP P N K y Q ⟨fr', m'⟩) : WP P N K (.seq (.region id l.toArray false) y) Q ⟨fr, m⟩ := WP.seq (WP.run T wm hT h hp k)

/-- A region, to be walked, then the rest. -/
theorem WP.rw {id : Nat} {l : List Oper} {y : Code} (h : WPL P N K l.toArray (Then (WP P N K y Q) Q) l s) : WP P N K (.seq (.region id l.toArray false) y) Q s := WP.seq (WP.region h)

theorem WP.dw (hm : P.follows .mixedOrders = true) {id : Nat} {l : List Oper} {y : Code} (hB : Region.lexB .any l.toArray = true) (h : WQ P N l.toArray (WP P N K y Q) l s) : WP P N K (.seq (.region id l.toArray true) y) Q s :=
  WP.seq (WP.drawsQ hm hB h)

/-- An if, then the rest. -/
theorem WP.cs {fr : Nat → Dat} {m : List Root} {c : Operand} {x y z : Code} {b : Bool} (hc : ev fr c = .b b) (ht : b = true → WP P N K x (Then (WP P N K z Q) Q) ⟨fr, m⟩) (hf : b = false → WP P N K y (Then (WP P N K z Q) Q) ⟨fr, m⟩) : WP P N K (.seq (.cond c x y) z) Q ⟨fr, m⟩ :=
  WP.seq (WP.cond hc ht hf)

/-- .. whose no-branch is empty. -/
theorem WP.cskip {fr : Nat → Dat} {m : List Root} {c : Operand} {x z : Code} {b : Bool} (hc : ev fr c = .b b) (ht : b = true → WP P N K x (Then (WP P N K z Q) Q) ⟨fr, m⟩) (hf : b = false → WP P N K z Q ⟨fr, m⟩) : WP P N K (.seq (.cond c x .skip) z) Q ⟨fr, m⟩ :=
  WP.seq (WP.cond hc ht fun h => WP.skip (hf h))

/-- .. whose yes-branch is empty. -/
theorem WP.cskip' {fr : Nat → Dat} {m : List Root} {c : Operand} {y z : Code} {b : Bool} (hc : ev fr c = .b b) (ht : b = true → WP P N K z Q ⟨fr, m⟩) (hf : b = false → WP P N K y (Then (WP P N K z Q) Q) ⟨fr, m⟩) : WP P N K (.seq (.cond c .skip y) z) Q ⟨fr, m⟩ :=
  WP.seq (WP.cond hc (fun h => WP.skip (ht h)) hf)

/-- Memory, spelled otherwise. -/
theorem WP.mem {fr : Nat → Dat} {m m' : List Root} {c : Code} (h : m = m') (k : WP P N K c Q ⟨fr, m'⟩) : WP P N K c Q ⟨fr, m⟩ := h ▸ k
theorem WPL.mem {fr : Nat → Dat} {m m' : List Root} {ops : Array Oper} {l : List Oper} (h : m = m') (k : WPL P N K ops Q l ⟨fr, m'⟩) : WPL P N K ops Q l ⟨fr, m⟩ := h ▸ k

/-- The rest of a region is run. -/
theorem WPL.fin {fr : Nat → Dat} {m : List Root} (T : TyEnv) (wm : Bool) (hT : TOK P T) {ops : Array Oper} {l : List Oper} {ps : List Prop} {fr' : Nat → Dat} {m' : List Root} (h : evF T wm N ops l fr m [] = some (ps, ⟨fr', m'⟩)) (hp : AllP ps)
    (k : Q .normal ⟨fr', m'⟩) : WPL P N K ops Q l ⟨fr, m⟩ := by
  have := evalOps_ok (Q := Q) (K := K) (k := []) hT (evF_nil h) hp (WPL.nil k)
  rwa [List.append_nil] at this

theorem WQ.fin {fr : Nat → Dat} {m : List Root} (T : TyEnv) (wm : Bool) (hT : TOK P T) {ops : Array Oper} {K : St → Prop} {l : List Oper} {ps : List Prop} {fr' : Nat → Dat} {m' : List Root} (h : evF T wm N ops l fr m [] = some (ps, ⟨fr', m'⟩)) (hq : allQ l = true) (hp : AllP ps)
    (k : K ⟨fr', m'⟩) : WQ P N ops K l ⟨fr, m⟩ := by
  have := evalOps_q (K := K) (k := []) hT hq (evF_nil h) hp (WQ.nil k)
  rwa [List.append_nil] at this

/-- A call by the text of the operation itself. -/
theorem WPL.call {fr : Nat → Dat} {m : List Root} {ops : Array Oper} {dst : Tmp} {f : FuncId} {args : List Operand} {ts : Array TypeId} {t : TypeId} {pos : String} {after : Array Edge} {gg : Option (Nat × Bool)} {rest : List Oper} {xs : List Dat} {r : Dat} (h : FnP P f xs r)
    (hx : args.map (ev fr) = xs) (hg : gd ops { dst := some dst, op := .call { callee := .value (.func f), args := args.toArray, argTypes := ts }, type := t, pos := pos, after := after, guard := gg } fr = some true) (hd : Nat.blt dst N = true) (hsc : ∀ x ∈ xs, Sc 0 x ∧ x ≠ .un) (k : WPL P N K ops Q rest ⟨fup fr dst r, m⟩) :
    WPL P N K ops Q ({ dst := some dst, op := .call { callee := .value (.func f), args := args.toArray, argTypes := ts }, type := t, pos := pos, after := after, guard := gg } :: rest) ⟨fr, m⟩ :=
  WPL.callP h rfl hg hd rfl hx (fun x hx => (hsc x hx).1) (fun x hx => (hsc x hx).2) k

theorem WQ.call {fr : Nat → Dat} {m : List Root} {ops : Array Oper} {K : St → Prop} {dst : Tmp} {f : FuncId} {args : List Operand} {ts : Array TypeId} {t : TypeId} {pos : String} {after : Array Edge} {gg : Option (Nat × Bool)} {rest : List Oper} {xs : List Dat} {r : Dat} (h : FnP P f xs r)
    (hx : args.map (ev fr) = xs) (hg : gd ops { dst := some dst, op := .call { callee := .value (.func f), args := args.toArray, argTypes := ts }, type := t, pos := pos, after := after, guard := gg } fr = some true) (hd : Nat.blt dst N = true) (hsc : ∀ x ∈ xs, Sc 0 x ∧ x ≠ .un) (hok : Sc 0 r ∧ Ok r) (k : WQ P N ops K rest ⟨fup fr dst r, m⟩) :
    WQ P N ops K ({ dst := some dst, op := .call { callee := .value (.func f), args := args.toArray, argTypes := ts }, type := t, pos := pos, after := after, guard := gg } :: rest) ⟨fr, m⟩ :=
  WQ.callP h rfl hg hd rfl hx (fun x hx => (hsc x hx).1) (fun x hx => (hsc x hx).2) hok k

/-- A function's end by 'return' of what its result variables hold. -/
def Ends (T : TyEnv) (l : List ResultVar) (R : Dat → List Root → Prop) : Exit → St → Prop := fun e s => (e = .ret ∨ e = .normal) ∧ ∃ ps r, resE T s.fr s.m l = some (ps, r) ∧ AllP ps ∧ R r s.m

theorem FnS.into (T : TyEnv) (hT : TOK P T) {f : FuncId} {fn : Func} {c : Code} {xs : List Dat} {m : List Root} {R : Dat → List Root → Prop} {l : List ResultVar} (hf : P.funcs[f]? = some fn) (hn : (fn.name == "runtime.NumGoroutine") = false) (hb : fn.body = some c)
    (hl : fn.results = l.toArray) (hk : fn.ntmps = N) (hN : xs.length ≤ N) (h : WP P N m.length c (Ends T l R) ⟨nthD xs, m⟩) : FnS P f xs m R := by
  subst hk
  exact FnS.intro T hT hf hn hb hl hN h

theorem Ends.of {T : TyEnv} {l : List ResultVar} {R : Dat → List Root → Prop} {e : Exit} {ps : List Prop} {r : Dat} (he : e = .ret ∨ e = .normal) (h : resE T s.fr s.m l = some (ps, r)) (hp : AllP ps) (hr : R r s.m) : Ends T l R e s := ⟨he, ps, r, h, hp, hr⟩

/-- The end of a function over values alone. -/
theorem Ends.val {T : TyEnv} {fr : Nat → Dat} {m : List Root} {l : List ResultVar} {r : Dat} {ps : List Prop} {r' : Dat} (h : resE T fr m l = some (ps, r')) (hp : AllP ps) (hr : r' = r) (hs : Sc 0 r) : Ends T l (fun r' _ => r' = r ∧ Sc 0 r) .ret ⟨fr, m⟩ :=
  ⟨.inl rfl, ps, r', h, hp, hr, hs⟩

end
end Go.Proofs.Ytakpeibmaejmeaa.DM
