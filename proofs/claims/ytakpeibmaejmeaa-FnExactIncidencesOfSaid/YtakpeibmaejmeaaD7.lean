/- What is evaluated on plain data is what the model does. -/
import Derived.Test.YtakpeibmaejmeaaD6
namespace Go.Proofs.Ytakpeibmaejmeaa.DM
open Go.RowKit

section
variable {P : Program} {T : TyEnv} {fr : Nat → Dat} {m m' : List Root} {v : Dat} {ps : List Prop} {wm : Bool} {N : Nat} {ρ : Rho} {a : Act} {w : World}

theorem kEq_ok : ∀ {k k' : IntKind}, kEq k k' = true → k = k' := by
  intro k k' h
  cases k <;> cases k' <;> first | rfl | cases h

theorem binI_ok {op : BinOp} {k k' : IntKind} {x y : Int} (h : binI wm op k x y = some (ps, v)) (hk : (kEq k k' || isSh op) = true) (hp : AllP ps) (t : TypeId) (w : World) :
    (binOp op t (.int k x) (.int k' y)).run P w = .ok (enc ρ v) w ∧ Sc m.length v ∧ Ok v := by
  have hkk : isSh op = false → k = k' := fun hs => by rw [hs, Bool.or_false] at hk; exact kEq_ok hk
  have hnum : ∀ {z : Int}, AllP (num wm k z).1 → (enc ρ (num wm k z).2 = .int k (k.wrap z)) ∧ Sc m.length (num wm k z).2 ∧ Ok (num wm k z).2 := fun hp => by
    rw [num_ok hp]; exact ⟨rfl, trivial, trivial, trivial⟩
  cases op <;> simp only [binI, Option.some.injEq, Prod.mk.injEq, reduceCtorEq] at h
  case add => obtain ⟨rfl, rfl⟩ : (num wm k (x + y)).1 = ps ∧ (num wm k (x + y)).2 = v := (by rw [h]; exact ⟨rfl, rfl⟩); have hk := hkk rfl; subst hk; have := hnum hp; refine ⟨?_, this.2⟩; rw [this.1]; simp [binOp, Op.intArith]
  case sub => obtain ⟨rfl, rfl⟩ : (num wm k (x - y)).1 = ps ∧ (num wm k (x - y)).2 = v := (by rw [h]; exact ⟨rfl, rfl⟩); have hk := hkk rfl; subst hk; have := hnum hp; refine ⟨?_, this.2⟩; rw [this.1]; simp [binOp, Op.intArith]
  case mul => obtain ⟨rfl, rfl⟩ : (num wm k (x * y)).1 = ps ∧ (num wm k (x * y)).2 = v := (by rw [h]; exact ⟨rfl, rfl⟩); have hk := hkk rfl; subst hk; have := hnum hp; refine ⟨?_, this.2⟩; rw [this.1]; simp [binOp, Op.intArith]
  case quo =>
    obtain ⟨rfl, rfl⟩ := h; have hk := hkk rfl; subst hk
    obtain ⟨h1, h2⟩ := hp.cons
    have := hnum h2; refine ⟨?_, this.2⟩; rw [this.1]; simp [binOp, Op.intDiv, h1]
  case rem =>
    obtain ⟨rfl, rfl⟩ := h; have hk := hkk rfl; subst hk
    have hp : y ≠ 0 := hp
    refine ⟨?_, trivial, trivial, trivial⟩; simp [binOp, Op.intDiv, hp, enc, leaf]
  case and => obtain ⟨rfl, rfl⟩ := h; have hk := hkk rfl; subst hk; exact ⟨by simp [binOp, Op.intBits, enc, leaf], trivial, trivial, trivial⟩
  case or => obtain ⟨rfl, rfl⟩ := h; have hk := hkk rfl; subst hk; exact ⟨by simp [binOp, Op.intBits, enc, leaf], trivial, trivial, trivial⟩
  case xor => obtain ⟨rfl, rfl⟩ := h; have hk := hkk rfl; subst hk; exact ⟨by simp [binOp, Op.intBits, enc, leaf], trivial, trivial, trivial⟩
  case shl => obtain ⟨rfl, rfl⟩ := h; have hp : 0 ≤ y := hp; exact ⟨by simp [binOp, Op.shift, enc, leaf, show ¬ y < 0 by omega], trivial, trivial, trivial⟩
  case shr => obtain ⟨rfl, rfl⟩ := h; have hp : 0 ≤ y := hp; exact ⟨by simp [binOp, Op.shift, enc, leaf, show ¬ y < 0 by omega], trivial, trivial, trivial⟩
  case eql => obtain ⟨rfl, rfl⟩ := h; have hk := hkk rfl; subst hk; exact ⟨by simp [binOp, Op.intCmp, enc, leaf]; rfl, trivial, trivial, trivial⟩
  case neq => obtain ⟨rfl, rfl⟩ := h; have hk := hkk rfl; subst hk; exact ⟨by simp [binOp, Op.intCmp, enc, leaf, bne]; rfl, trivial, trivial, trivial⟩
  case lss => obtain ⟨rfl, rfl⟩ := h; have hk := hkk rfl; subst hk; exact ⟨by simp [binOp, Op.intCmp, enc, leaf], trivial, trivial, trivial⟩
  case leq => obtain ⟨rfl, rfl⟩ := h; have hk := hkk rfl; subst hk; exact ⟨by simp [binOp, Op.intCmp, enc, leaf], trivial, trivial, trivial⟩
  case gtr => obtain ⟨rfl, rfl⟩ := h; have hk := hkk rfl; subst hk; exact ⟨by simp [binOp, Op.intCmp, enc, leaf], trivial, trivial, trivial⟩
  case geq => obtain ⟨rfl, rfl⟩ := h; have hk := hkk rfl; subst hk; exact ⟨by simp [binOp, Op.intCmp, enc, leaf], trivial, trivial, trivial⟩


theorem eqGuard_run {op : BinOp} {t : TypeId} {x y : Operand} {u u' : Value} (h : ∀ d, u ≠ .nilIface ∧ u ≠ .agg d) (w : World) : (eqGuard op t x y u u').run P w = .ok () w := by
  cases u with
  | nilIface => exact absurd rfl (h #[]).1
  | agg d => exact absurd rfl (h d).2
  | _ => unfold eqGuard; split <;> first | rfl | (cases u' <;> rfl)

theorem bin_ok (hT : TOK P T) {op : BinOp} {t : TypeId} {x y : Dat} (h : bin T wm op t x y = some (ps, v)) (hp : AllP ps) (ρ : Rho) (m : List Root) (w : World) :
    (binOp op t (enc ρ x) (enc ρ y)).run P w = .ok (enc ρ v) w ∧ Sc m.length v ∧ Ok v ∧ ∀ d, enc ρ x ≠ .nilIface ∧ enc ρ x ≠ .agg d := by
  unfold bin at h
  split at h
  · rename_i k x k' y
    cases hk : kEq k k' || isSh op with
    | false => rw [hk] at h; cases h
    | true =>
      rw [hk] at h
      have := binI_ok (m := m) (ρ := ρ) (P := P) h hk hp t w
      exact ⟨this.1, this.2.1, this.2.2, fun d => ⟨by simp [enc, leaf], by simp [enc, leaf]⟩⟩
  · rename_i x y
    have main : ∀ s b z, T t = some ⟨.bool, s, b, z⟩ → (Op.equal t (.bool x) (.bool y)).run P w = .ok (x == y) w := by
      intro s b z ht
      have hf := (hT t _ ht).fits
      simp only [Ty.fits] at hf
      unfold Op.equal
      show (Op.equalIn (9999 + 1) t (.bool x) (.bool y)).run P w = _
      unfold Op.equalIn
      simp only [Sem.run_bind, run_underlying hf w, Result.andThen_ok]
      rfl
    split at h
    · rename_i ht
      simp only [Option.some.injEq, Prod.mk.injEq] at h
      obtain ⟨rfl, rfl⟩ := h
      refine ⟨?_, trivial, ⟨trivial, trivial⟩, fun d => ⟨by simp [enc, leaf], by simp [enc, leaf]⟩⟩
      simp only [enc, leaf, binOp, Sem.run_bind, main _ _ _ ht, Result.andThen_ok, Sem.run_pure]
    · rename_i ht
      simp only [Option.some.injEq, Prod.mk.injEq] at h
      obtain ⟨rfl, rfl⟩ := h
      refine ⟨?_, trivial, ⟨trivial, trivial⟩, fun d => ⟨by simp [enc, leaf], by simp [enc, leaf]⟩⟩
      simp only [enc, leaf, binOp, Sem.run_bind, main _ _ _ ht, Result.andThen_ok, Sem.run_pure]
    · cases h
  · cases h

/-- A slot's value whose datum is known. -/
theorem Frm.known {n : Nat} (h : Frm n ρ N fr a.tmps) {x : Operand} {d : Dat} (he : ev fr x = d) (hd : d ≠ .un := by simp) : a.eval x = enc ρ d ∧ Sc n d ∧ Ok d := ev_eq h he hd

theorem part_scalar {cs : Array Value} {t : TypeId} {i : TI} (hi : i.ok P t) (hag : i.ty.agg = false) {o : Nat} {u : Value} (hu : cs[o]? = some u) (w : World) : (part t cs o).run P w = .ok u w := by
  unfold part
  rw [Sem.run_bind, isAgg_run hi w, hag]
  simp [hu]

theorem part_agg {cs : Array Value} {t : TypeId} {i : TI} (hi : i.ok P t) (hag : i.ty.agg = true) {o : Nat} (w : World) : (part t cs o).run P w = .ok (.agg (cs.extract o (o + i.sz))) w := by
  unfold part
  rw [Sem.run_bind, isAgg_run hi w, hag]
  simp [sizeOf_run hi w]

/-- A part of a value. -/
theorem part_run {t : TypeId} {i : TI} (hi : i.ok P t) {d x : Dat} {q : List Nat} (hd : WF d ∧ Pl d) (hn : navL d q = some x) (hf : fit i x = true) (w : World) :
    (part t (cells ρ noA d).toArray (offs d q)).run P w = .ok (enc ρ x) w := by
  obtain ⟨hx, pre, post, hl, hc, _⟩ := focus_cells ρ (A := noA) hd.1 hn
  obtain ⟨hs, hf1, hf2⟩ := fit_sz hf
  have hA : cells ρ (fun z => noA (q ++ z)) x = cells ρ noA x := rfl
  rw [hA] at hc
  have hlen : (cells ρ noA x).length = i.sz := by rw [cells_length ρ _ _ hx, hs]
  cases hag : i.ty.agg with
  | false =>
    have hsc := hf1 hag
    have h1 : cells ρ noA x = [enc ρ x] := by cases x <;> first | rfl | cases hsc
    refine part_scalar hi hag ?_ w
    rw [hc, ← hl, h1]
    simp
  | true =>
    rw [part_agg hi hag w, hc, ← hl, ← hlen]
    have : ((pre ++ cells ρ noA x ++ post).toArray.extract pre.length (pre.length + (cells ρ noA x).length)) = (cells ρ noA x).toArray := by
      apply Array.ext'
      simp [List.append_assoc]
    rw [this]
    rcases hf2 hag with ⟨n, s, f, rfl⟩ | ⟨n, f, rfl⟩ <;> rfl


theorem rowy_nil {r : Nat} {R : Root} (hR : m[r]? = some R) (hn : R.rowy = true) {off len : Nat} {z : Int} (h3 : R.holds off len) (h1 : 0 ≤ z) (h2 : z < len) {ρ : Rho} {w : World} (hr : Rep ρ m w) : (ρ r []).nil = false := by
  cases R with
  | dead => cases hn
  | var d => exact hr.mine_nil hR rfl (.inl ⟨rfl, rfl⟩)
  | row e n s f => exact hr.mine_nil hR rfl (.inl ⟨rfl, rfl⟩)
  | ro n s f =>
    rcases hr.ro r _ _ [] 0 n s f hR (.inl rfl) rfl rfl with ⟨_, hz⟩ | ⟨h1, _⟩
    · have h3 : off + len ≤ n := h3
      omega
    · exact h1

end
end Go.Proofs.Ytakpeibmaejmeaa.DM
