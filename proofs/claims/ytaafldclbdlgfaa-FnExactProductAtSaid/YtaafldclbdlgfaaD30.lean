import Derived.Test.YtaafldclbdlgfaaD18
/- Operations left out: what hangs on them is left out, too. -/
namespace Go.Proofs.Ytaafldclbdlgfaa
open Go.RowKit DM
set_option linter.unusedVariables false
set_option linter.unusedSimpArgs false
namespace DM
section
variable {P : Program} {N K : Nat} {Q : Exit → St → Prop} {ops : Array Oper} {n : Nat}

/-- What an operation left out has. -/
def unD : Dat := .tup 0 fun _ => .un

def gdF (ops : Array Oper) (o : Oper) (fr : Nat → Dat) : Bool :=
  match o.guard with
  | none => false
  | some (j, c) => match (ops[j]?).bind (·.dst) with
    | some t => match fr t with
      | .b x => x != c
      | .tup 0 _ => true
      | _ => false
    | none => false

theorem gdF_wanted {o : Oper} {fr : Nat → Dat} {k : Nat} {ρ : Rho} {a : Act} (h : gdF ops o fr = true) (hf : Frm k ρ N fr a.tmps) : Region.wanted o (yielded ops a.tmps) = false := by
  unfold gdF at h
  unfold Region.wanted
  split at h
  · cases h
  · rename_i j c hg
    rw [hg]
    split at h
    · rename_i t ht
      split at h
      · rename_i x hx
        have key : yielded ops a.tmps j = some x := by
          rcases hf.slot t with h1 | ⟨h1, _⟩
          · rw [hx] at h1; cases h1
          · rw [hx] at h1
            unfold yielded
            rw [ht]
            simp only [Option.bind_some]
            rw [Array.getD_eq_getD_getElem?] at h1
            cases hq : a.tmps[t]? with
            | none => rw [hq] at h1; cases h1
            | some u => rw [hq] at h1; simp only [Option.getD_some, enc, leaf] at h1; rw [h1]
        simp only [key]
        cases x <;> cases c <;> first | rfl | cases h
      · rename_i f hx
        have key : yielded ops a.tmps j = none := by
          rcases hf.slot t with h1 | ⟨h1, _⟩
          · rw [hx] at h1; cases h1
          · rw [hx] at h1
            unfold yielded
            rw [ht]
            simp only [Option.bind_some]
            rw [Array.getD_eq_getD_getElem?] at h1
            cases hq : a.tmps[t]? with
            | none => rfl
            | some u => rw [hq] at h1; simp only [Option.getD_some, enc] at h1; rw [h1]
        simp only [key]
        cases c <;> rfl
      · cases h
    · cases h

theorem WA.skipU {fuel : Nat} {listed : Array Bool} (i : Nat) {o : Oper} {fr : Nat → Dat} {m : List Root} (hi : ops[i]? = some o) (hf : Region.free .any ops listed i = true) (hr : (Region.ready .any ops listed).contains i = true)
    (hg : gdF ops o fr = true) (hd : dstOK N o.dst = true) (k : WA P N K ops Q n fuel (listed.setIfInBounds i true) ⟨putO fr o.dst unD, m⟩) : WA P N K ops Q n (fuel + 1) listed ⟨fr, m⟩ := by
  intro hns hclo ρ a w ⟨hfr, hdf, hrep, hK⟩
  have hri : i ∈ Region.ready .any ops listed := by simpa using hr
  refine wpAnyS_firstW hi hns (fun c a w q => absurd rfl (q.1 c)) fuel listed a w (Region.free_spec hi hf) hri (v := undef) (.inr ⟨gdF_wanted hg hfr, rfl⟩) ?_
  exact k hns (hclo.ready hri) ρ (a.put o.dst undef) w ⟨hfr.putO hd (.inr ⟨rfl, fun i hi => absurd hi (Nat.not_lt_zero _), fun i hi => absurd hi (Nat.not_lt_zero _)⟩), by rw [put_defers]; exact hdf, hrep, hK⟩
end
end DM
end Go.Proofs.Ytaafldclbdlgfaa
