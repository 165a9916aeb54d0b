/- Every operation that is evaluated on plain data does in the model what was evaluated. -/
import Derived.Test.YtakpeibmaejmeaaD7e
namespace Go.Proofs.Ytakpeibmaejmeaa.DM
open Go.RowKit

section
variable {P : Program} {T : TyEnv} {fr : Nat → Dat} {m m' : List Root} {v : Dat} {ps : List Prop} {wm : Bool}

def isQ : Op → Bool
  | .alloc _ => false
  | .box _ _ => false
  | .store _ _ _ => false
  | .buildSlice _ _ _ => false
  | .makeSlice _ _ _ => false
  | .call c => match c.callee with
    | .builtin .len => true
    | _ => false
  | .mapUpdate _ _ _ _ => false
  | .makeMap _ _ => false
  | _ => true

theorem evalOp_q (hT : TOK P T) {o : Oper} (hq : isQ o.op = true) (h : evalOp T wm o.op fr m = some (ps, v, m')) (hp : AllP ps) : QOK P o fr m v m' := by
  generalize ho : o.op = op at h hq
  cases op <;> first | (simp only [evalOp, reduceCtorEq] at h; done) | (simp only [isQ, reduceCtorEq] at hq; done) | skip
  case move x => simp only [evalOp, Option.some.injEq, Prod.mk.injEq] at h; obtain ⟨rfl, rfl, rfl⟩ := h; exact ok_move (.inl ho)
  case assign x => simp only [evalOp, Option.some.injEq, Prod.mk.injEq] at h; obtain ⟨rfl, rfl, rfl⟩ := h; exact ok_move (.inr ho)
  case pick c x y =>
    simp only [evalOp] at h
    cases hc : ev fr c <;> rw [hc] at h <;> first | (simp only [reduceCtorEq] at h; done) | skip
    case b b =>
      have hk := ok_pick (P := P) (m := m) (x := x) (y := y) ho hc
      cases b
      · split at h
        · rename_i hc' hx hy
          cases hc'
          simp only [Option.some.injEq, Prod.mk.injEq] at h; obtain ⟨rfl, rfl, rfl⟩ := h
          rw [hx, hy] at hk
          exact hk
        · rename_i hc' _; cases hc'
        · simp only [Option.some.injEq, Prod.mk.injEq] at h; obtain ⟨rfl, rfl, rfl⟩ := h; exact hk
        · cases h
      · split at h
        · rename_i hc' hx hy
          cases hc'
          simp only [Option.some.injEq, Prod.mk.injEq] at h; obtain ⟨rfl, rfl, rfl⟩ := h
          rw [hx, hy] at hk
          exact hk
        · simp only [Option.some.injEq, Prod.mk.injEq] at h; obtain ⟨rfl, rfl, rfl⟩ := h; exact hk
        · rename_i hc' _; cases hc'
        · cases h
  case load t x =>
    simp only [evalOp] at h
    split at h
    · rename_i hl
      simp only [Option.some.injEq, Prod.mk.injEq] at h; obtain ⟨rfl, rfl, rfl⟩ := h
      exact ok_load hT ho hl hp
    · exact ok_loadS hT ho h hp
  case call c =>
    obtain ⟨callee, args, ts⟩ := c
    cases callee with
    | value f => simp only [isQ, reduceCtorEq] at hq
    | invoke a b => simp only [isQ, reduceCtorEq] at hq
    | builtin b =>
      cases b <;> first | (simp only [isQ, reduceCtorEq] at hq; done) | skip
      simp only [evalOp] at h
      split at h
      · rename_i x t _ hx ht
        split at h
        · rename_i hl
          simp only [Option.some.injEq, Prod.mk.injEq] at h; obtain ⟨rfl, rfl, rfl⟩ := h
          have e1 : args = #[x] := by apply Array.ext'; simpa using hx
          have e2 : ts = #[t] := by apply Array.ext'; simpa using ht
          subst e1; subst e2
          exact ok_len hT ho hl hp
        · cases h
      · rename_i hc _ _; cases hc
      · cases h
  case binOp op t x y t' =>
    simp only [evalOp] at h
    split at h
    · rename_i hl
      simp only [Option.some.injEq, Prod.mk.injEq] at h; obtain ⟨rfl, rfl, rfl⟩ := h
      exact ok_bin hT ho hl hp
    · split at h
      · rename_i hl
        simp only [Option.some.injEq, Prod.mk.injEq] at h; obtain ⟨rfl, rfl, rfl⟩ := h
        exact ok_eq hT ho hl
      · cases h
  case unOp op t x =>
    cases op <;> first | (simp only [evalOp, reduceCtorEq] at h; done) | skip
    case not =>
      simp only [evalOp] at h
      split at h
      · rename_i hx
        simp only [Option.some.injEq, Prod.mk.injEq] at h; obtain ⟨rfl, rfl, rfl⟩ := h
        exact ok_not ho hx
      · cases h
    case neg =>
      simp only [evalOp] at h
      split at h
      · rename_i hx
        simp only [Option.some.injEq, Prod.mk.injEq] at h; obtain ⟨rfl, rfl, rfl⟩ := h
        exact ok_neg ho hx hp
      · cases h
  case convert s t x =>
    simp only [evalOp] at h
    split at h
    · rename_i hs ht hx
      simp only [Option.some.injEq, Prod.mk.injEq] at h; obtain ⟨rfl, rfl, rfl⟩ := h
      exact ok_conv hT ho hs ht hx hp
    · cases h
  case fieldAddr t x j =>
    simp only [evalOp] at h
    split at h
    · rename_i ht hx
      split at h
      · rename_i hj
        split at h
        · rename_i i hi
          cases hz : Nat.beq i.sz 0 with
          | true => rw [hz] at h; cases h
          | false =>
            rw [hz] at h
            simp only [cond_false, Option.some.injEq, Prod.mk.injEq] at h; obtain ⟨rfl, rfl, rfl⟩ := h
            exact ok_fieldAddr hT ho ht hx hj hi (fun e => by rw [e] at hz; cases hz)
        · cases h
      · cases h
    · cases h
  case indexAddr t x y =>
    simp only [evalOp] at h
    split at h
    · rename_i ht hx hy
      split at h
      · rename_i hi
        simp only [Option.some.injEq, Prod.mk.injEq] at h; obtain ⟨rfl, rfl, rfl⟩ := h
        exact ok_indexArr hT ho ht hx hy hi hp.1 hp.2
      · cases h
    · rename_i ht hx hy
      split at h
      · rename_i i hi
        cases hz : Nat.beq i.sz _ with
        | false => rw [hz] at h; cases h
        | true =>
          rw [hz] at h
          simp only [cond_true] at h
          split at h
          · rename_i R hR
            cases hn : R.rowy with
            | false => rw [hn] at h; cases h
            | true =>
              rw [hn] at h
              simp only [cond_true, Option.some.injEq, Prod.mk.injEq] at h; obtain ⟨rfl, rfl, rfl⟩ := h
              obtain ⟨h1, h2, h3⟩ := hp
              exact ok_indexSl hT ho ht hx hy hi (Nat.eq_of_beq_eq_true hz) h1 h2 (fun ρ w hr => rowy_nil hR hn h3 h1 h2 hr)
          · cases h
      · cases h
    · cases h
  case index t x y =>
    simp only [evalOp] at h
    split at h
    · rename_i ht hx hy
      split at h
      · rename_i i hi
        rw [cond_eq_ite] at h
        split at h
        all_goals first
          | (rename_i hz; simp only [Bool.and_eq_true] at hz; simp only [Option.some.injEq, Prod.mk.injEq] at h; obtain ⟨rfl, rfl, rfl⟩ := h
             have e1 := Nat.eq_of_beq_eq_true hz.1
             subst e1
             exact ok_index hT ho ht hx hy hi (Nat.eq_of_beq_eq_true hz.2.1) hz.2.2 hp.1 hp.2)
          | cases h
      · cases h
    · rename_i ht hx hy
      simp only [Option.some.injEq, Prod.mk.injEq] at h; obtain ⟨rfl, rfl, rfl⟩ := h
      exact ok_indexStr hT ho ht hx hy hp.1 hp.2
    · cases h
  case build t qs =>
    obtain ⟨rfl, h1⟩ := ok_build hT ho h hp
    exact h1
  case nilCheck x =>
    simp only [evalOp] at h
    split at h
    · rename_i hx
      simp only [Option.some.injEq, Prod.mk.injEq] at h; obtain ⟨rfl, rfl, rfl⟩ := h
      exact ok_nilCheck ho hx
    · cases h
  case extract x j =>
    simp only [evalOp] at h
    split at h
    · rename_i hx
      cases hj : Nat.blt j _ with
      | false => rw [hj] at h; cases h
      | true =>
        rw [hj] at h
        simp only [cond_true, Option.some.injEq, Prod.mk.injEq] at h; obtain ⟨rfl, rfl, rfl⟩ := h
        exact ok_extract ho hx (by rw [Nat.blt_eq] at hj; exact hj)
    · cases h

theorem evalOp_ok (hT : TOK P T) {o : Oper} (h : evalOp T wm o.op fr m = some (ps, v, m')) (hp : AllP ps) : OpOK P o fr m v m' := by
  cases hq : isQ o.op with
  | true =>
    exact (evalOp_q hT hq h hp).op
  | false =>
  generalize ho : o.op = op at h hq
  cases op <;> first | (simp only [isQ, reduceCtorEq] at hq; done) | (simp only [evalOp, reduceCtorEq] at h; done) | skip
  case alloc t =>
    simp only [evalOp, fL_eq] at h
    split at h
    · rename_i i hi
      simp only [Option.some.injEq, Prod.mk.injEq] at h; obtain ⟨rfl, rfl, rfl⟩ := h
      exact ok_alloc hT ho hi
    · cases h
  case box t x =>
    simp only [evalOp, fL_eq] at h
    split at h
    · rename_i i hi
      cases hf : fit i (ev fr x) with
      | false => rw [hf] at h; cases h
      | true =>
        rw [hf] at h
        simp only [cond_true, Option.some.injEq, Prod.mk.injEq] at h; obtain ⟨rfl, rfl, rfl⟩ := h
        exact ok_box ho hf
    · cases h
  case store t x y =>
    simp only [evalOp, fD_eq] at h
    split at h
    · rename_i hl
      simp only [Option.some.injEq, Prod.mk.injEq] at h; obtain ⟨rfl, rfl, rfl⟩ := h
      exact ok_store hT ho hl hp
    · cases h
  case makeSlice t x y => exact ok_make hT ho h hp
  case buildSlice t len qs => exact ok_bslice hT ho h hp
  case call c =>
    obtain ⟨callee, args, ts⟩ := c
    cases callee with
    | value f => simp only [evalOp, reduceCtorEq] at h
    | invoke a b => simp only [evalOp, reduceCtorEq] at h
    | builtin b =>
      cases b <;> first | (simp only [isQ, reduceCtorEq] at hq; done) | (simp only [evalOp, reduceCtorEq] at h; done) | skip
      simp only [evalOp, fD_eq] at h
      split at h
      · rename_i hc _ _; cases hc
      · rename_i x y t t' _ hx ht
        have e1 : args = #[x, y] := by apply Array.ext'; simpa using hx
        have e2 : ts = #[t, t'] := by apply Array.ext'; simpa using ht
        subst e1; subst e2
        cases htt : Nat.beq t t' with
        | false => rw [htt] at h; cases h
        | true =>
          rw [htt] at h
          have := Nat.eq_of_beq_eq_true htt
          subst this
          exact ok_app hT ho h hp
      · cases h

end
end Go.Proofs.Ytakpeibmaejmeaa.DM
