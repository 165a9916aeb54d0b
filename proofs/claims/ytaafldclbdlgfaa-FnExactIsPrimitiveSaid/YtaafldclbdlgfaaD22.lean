import Derived.Test.YtaafldclbdlgfaaD18
import Derived.Laws.Slices
import Derived.Laws.AppendOwn
import Derived.Laws.CopyRow
import Derived.Laws.Cover3
/- Slices of slices, min and max. -/
namespace Go.Proofs.Ytaafldclbdlgfaa.DM
open Go.RowKit
set_option linter.unusedVariables false
set_option linter.unusedSimpArgs false

section
variable {P : Program} {T : TyEnv} {fr : Nat → Dat} {m : List Root}

/-- The first h elements of a slice over an own row. -/
theorem slh_ok (hT : TOK P T) {o : Oper} {t : TypeId} {x y : Operand} {e sz0 by0 : Nat} {z0 : Dat} {r off len s n h : Nat} {k : IntKind} {f : Nat → Dat} {e' : TypeId} (ho : o.op = .slice t x none (some y) none) (ht : T t = some ⟨.slice e, sz0, by0, z0⟩) (hx : ev fr x = .sl r off len s) (hy : ev fr y = .i k (h : Int))
    {i : TI} (hi : T e = some i) (hs : i.sz = s) (hR : m[r]? = some (.row e' n s f)) (hh : off + h ≤ n) : QOK P o fr m (.sl r off h s) m :=
  .of_run fun N ρ ac w hf hr => by
    obtain ⟨h0, hsc, _⟩ := ev_eq hf (x := x) hx (by simp)
    obtain ⟨h1, _⟩ := ev_eq hf (x := y) hy (by simp)
    have hu := (hT t _ ht).fits
    simp only [Ty.fits] at hu
    have hel : P.elem t = e := by simp [Program.elem, hu]
    have hu' : P.underlying t = some (.slice (P.elem t)) := by rw [hel]; exact hu
    have hnil := hr.mine_nil hR rfl (.inl ⟨rfl, rfl⟩)
    have hcap : n ≤ (ρ r []).cap := by
      obtain ⟨blk, hb, _, _, hc, _⟩ := hr.row r _ _ [] e' n s f hR rfl rfl rfl (.inl rfl)
      exact hc
    refine ⟨?_, hsc, trivial, trivial⟩
    obtain ⟨ti, z, g1, _, _, g4, _, _⟩ := info_all (hT e i hi)
    simp only [execOp, ho, Option.map_none, Option.map_some, h0, h1, enc, leaf, RV.slice, hnil]
    have h2 := run_sliceAt_slice (P := P) w t (.slice (some ⟨(ρ r []).b, (ρ r []).o + off * s, none⟩) len ((ρ r []).cap - off)) none (some (.int k (h : Int))) none hu'
    have := run_slice_h (P := P) w t (some ⟨(ρ r []).b, (ρ r []).o + off * s, none⟩) len ((ρ r []).cap - off) hu' k (h : Int) (by omega) (by omega)
    simp only [Sem.run_bind, h2, this, hel, sizeOf, typeInfo, g1, Sem.run_pure, Result.andThen_ok, sliced, Int.toNat_natCast, Nat.sub_zero, Nat.zero_mul]
    simp [Addr.add, g1, Result.andThen]

end
end Go.Proofs.Ytaafldclbdlgfaa.DM

/- A library function that turns the numbers of a row in place. -/
namespace Go.Proofs.Ytaafldclbdlgfaa.DM
open Go.RowKit
set_option linter.unusedVariables false
set_option linter.unusedSimpArgs false

section
variable {P : Program}

def intD (F : Nat → Int) (j : Nat) : Dat := .i .i64 (F j)

theorem cells_ints (ρ : Rho) (A : List Nat → RV) (n : Nat) (F : Nat → Int) : cells ρ A (.ar n 1 (intD F)) = (List.range n).map fun j => Value.int .i64 (F j) := by
  simp only [cells, intD, leaf]
  induction List.range n with
  | nil => rfl
  | cons a l ih => simp [ih]

end
end Go.Proofs.Ytaafldclbdlgfaa.DM

/- xs[l:], copy; comparing a slice with nil. -/
namespace Go.Proofs.Ytaafldclbdlgfaa.DM
open Go.RowKit
set_option linter.unusedVariables false
set_option linter.unusedSimpArgs false

section
variable {P : Program} {T : TyEnv} {fr : Nat → Dat} {m : List Root}

/-- A slice over an own row without its first l elements. -/
theorem sll_ok (hT : TOK P T) {o : Oper} {t : TypeId} {x y : Operand} {e sz0 by0 : Nat} {z0 : Dat} {r off len s n l : Nat} {k : IntKind} {f : Nat → Dat} {e' : TypeId} (ho : o.op = .slice t x (some y) none none) (ht : T t = some ⟨.slice e, sz0, by0, z0⟩) (hx : ev fr x = .sl r off len s) (hy : ev fr y = .i k (l : Int))
    {i : TI} (hi : T e = some i) (hs : i.sz = s) (hR : m[r]? = some (.row e' n s f)) (hl : l ≤ len) (hh : off + l < n) : QOK P o fr m (.sl r (off + l) (len - l) s) m :=
  .of_run fun N ρ ac w hf hr => by
    obtain ⟨h0, hsc, _⟩ := ev_eq hf (x := x) hx (by simp)
    obtain ⟨h1, _⟩ := ev_eq hf (x := y) hy (by simp)
    have hu := (hT t _ ht).fits
    simp only [Ty.fits] at hu
    have hel : P.elem t = e := by simp [Program.elem, hu]
    have hu' : P.underlying t = some (.slice (P.elem t)) := by rw [hel]; exact hu
    have hnil := hr.mine_nil hR rfl (.inl ⟨rfl, rfl⟩)
    have hcap : n ≤ (ρ r []).cap := by
      obtain ⟨blk, hb, _, _, hc, _⟩ := hr.row r _ _ [] e' n s f hR rfl rfl rfl (.inl rfl)
      exact hc
    refine ⟨?_, hsc, trivial, trivial⟩
    obtain ⟨ti, z, g1, _, _, g4, _, _⟩ := info_all (hT e i hi)
    simp only [execOp, ho, Option.map_none, Option.map_some, h0, h1, enc, leaf, RV.slice, hnil]
    have h2 := run_sliceAt_slice (P := P) w t (.slice (some ⟨(ρ r []).b, (ρ r []).o + off * s, none⟩) len ((ρ r []).cap - off)) (some (.int k (l : Int))) none none hu'
    have := run_slice_l (P := P) w t (some ⟨(ρ r []).b, (ρ r []).o + off * s, none⟩) len ((ρ r []).cap - off) hu' k (l : Int) (by omega) (by omega)
    have hsz : ti.size = s := by rw [g4, hs]
    have hc1 : ¬ (ρ r []).cap - off = l := by omega
    have hc2 : (ρ r []).cap - off - l = (ρ r []).cap - (off + l) := by omega
    simp only [Sem.run_bind, h2, this, hel, sizeOf, typeInfo, g1, Sem.run_pure, Result.andThen_ok, sliced, Int.toNat_natCast, if_neg hc1, hc2, Option.map_some]
    have hadd : (⟨(ρ r []).b, (ρ r []).o + off * s, none⟩ : Addr).add (l * s) = ⟨(ρ r []).b, (ρ r []).o + (off + l) * s, none⟩ := by
      unfold Addr.add
      rw [Nat.add_mul, ← Nat.add_assoc]
      split
      · rename_i h; rw [h]; rfl
      · rfl
    simp [g1, hsz, hadd, Result.andThen]

end
end Go.Proofs.Ytaafldclbdlgfaa.DM

/- A slice compared with nil. -/
namespace Go.Proofs.Ytaafldclbdlgfaa.DM
open Go.RowKit
set_option linter.unusedVariables false
set_option linter.unusedSimpArgs false

section
variable {P : Program} {T : TyEnv} {fr : Nat → Dat} {m : List Root}

end
end Go.Proofs.Ytaafldclbdlgfaa.DM
