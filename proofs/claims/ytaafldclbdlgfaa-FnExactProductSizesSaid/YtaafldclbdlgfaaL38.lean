import Derived.Test.YtaafldclbdlgfaaL9
/- Pairs of bytes as data. -/
namespace Go.Proofs.Ytaafldclbdlgfaa
open Go.RowKit DM
set_option linter.unusedVariables false
set_option linter.unusedSimpArgs false

def prU (p : Nat × Nat) : Nat → Dat := fup (fup (fun _ => .i .u8 0) 0 (.i .u8 (p.1 : Int))) 1 (.i .u8 (p.2 : Int))
theorem sc_prU (k : Nat) (p : Nat × Nat) (i : Nat) : Sc k (prU p i) := by
  unfold prU fup
  cases Nat.beq i 1
  · cases Nat.beq i 0 <;> trivial
  · trivial
theorem sc_prUv (k : Nat) (p : Nat × Nat) : Sc k (.ar 2 1 (prU p)) := fun i _ => sc_prU k p i
theorem sc_prUr (k n : Nat) (e : Go.TypeId) (P : Nat → Nat × Nat) : Sc k (.ow e n 2 (fun j => .ar 2 1 (prU (P j)))) := fun i _ => sc_prUv k _
theorem pl_prU (p : Nat × Nat) (i : Nat) : Pl (prU p i) := by
  unfold prU fup
  cases Nat.beq i 1
  · cases Nat.beq i 0 <;> trivial
  · trivial

/-- Rows of pairs. -/
def prUF (Q : List (Nat × Nat)) (j : Nat) : Dat := .ar 2 1 (prU (Q.getD j (0, 0)))
theorem sc_prUF (k n : Nat) (e : Go.TypeId) (Q : List (Nat × Nat)) : Sc k (.ow e n 2 (prUF Q)) := fun i _ => sc_prUv k _
theorem sc_two {k : Nat} {a b c : IntKind} {x y z : Int} : Sc k (.ar 2 1 (fup (fup (fun _ => .i a x) 0 (.i b y)) 1 (.i c z))) := fun i _ => by
  unfold fup
  cases Nat.beq i 1
  · cases Nat.beq i 0 <;> trivial
  · trivial
theorem pl_two {a b c : IntKind} {x y z : Int} : Pl (.ar 2 1 (fup (fup (fun _ => .i a x) 0 (.i b y)) 1 (.i c z))) := fun i _ => by
  unfold fup
  cases Nat.beq i 1
  · cases Nat.beq i 0 <;> trivial
  · trivial
/-- Two pairs. -/
def qrU (a b : Nat × Nat) : Nat → Dat := fup (fup (fun _ => .ar 2 1 (fun _ => .i .u8 0)) 0 (.ar 2 1 (prU a))) 1 (.ar 2 1 (prU b))
theorem sc_qrU (k : Nat) (a b : Nat × Nat) : Sc k (.ar 2 2 (qrU a b)) := by
  intro i _
  unfold qrU fup
  cases Nat.beq i 1
  · cases Nat.beq i 0
    · exact fun _ _ => trivial
    · exact sc_prUv k _
  · exact sc_prUv k _
theorem pl_prUv (p : Nat × Nat) : Pl (.ar 2 1 (prU p)) := fun i _ => pl_prU p i
theorem wf_prUv (p : Nat × Nat) : WF (.ar 2 1 (prU p)) := fun i _ => by
  unfold prU fup
  cases Nat.beq i 1
  · cases Nat.beq i 0 <;> exact ⟨rfl, trivial⟩
  · exact ⟨rfl, trivial⟩
theorem pl_qrU (a b : Nat × Nat) : Pl (.ar 2 2 (qrU a b)) := by
  intro i _
  unfold qrU fup
  cases Nat.beq i 1
  · cases Nat.beq i 0
    · exact fun _ _ => trivial
    · exact pl_prUv _
  · exact pl_prUv _
theorem ok_qrU (a b : Nat × Nat) : Ok (.ar 2 2 (qrU a b)) := by
  refine ⟨fun i _ => ?_, pl_qrU a b⟩
  unfold qrU fup
  cases Nat.beq i 1
  · cases Nat.beq i 0
    · exact ⟨rfl, fun _ _ => ⟨rfl, trivial⟩⟩
    · exact ⟨rfl, wf_prUv _⟩
  · exact ⟨rfl, wf_prUv _⟩

theorem ap_prUF (Q : List (Nat × Nat)) (y : Nat × Nat) (z : Dat) (j : Nat) (hj : j < Q.length + 1) : prUF (Q ++ [y]) j = apF Q.length (prUF Q) 0 (fup (fun _ => z) 0 (.ar 2 1 (prU y))) j := by
  unfold apF prUF
  by_cases h : j < Q.length
  · rw [blt_true h, getD_snoc_lt Q y _ h]; rfl
  · have e : j = Q.length := by omega
    subst e
    rw [blt_false (Nat.lt_irrefl _), getD_snoc]
    simp [fup]

end Go.Proofs.Ytaafldclbdlgfaa
