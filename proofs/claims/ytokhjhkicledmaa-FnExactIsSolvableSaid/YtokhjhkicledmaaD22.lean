import Derived.Test.YtokhjhkicledmaaD18
import Derived.Laws.Slices
import Derived.Laws.AppendOwn
import Derived.Laws.CopyRow
import Derived.Laws.Cover3
/- Slices of slices, min and max. -/
namespace Go.Proofs.Ytokhjhkicledmaa.DM
open Go.RowKit
set_option linter.unusedVariables false
set_option linter.unusedSimpArgs false

section
variable {P : Program} {T : TyEnv} {fr : Nat → Dat} {m : List Root}

/-- The first h elements of a slice over an own row. -/
theorem slh_ok (hT : TOK P T) {o : Oper} {t : TypeId} {x y : Operand} {e sz0 by0 : Nat} {z0 : Dat} {r off len s n h : Nat} {k : IntKind} {f : Nat → Dat} {e' : TypeId} (ho : o.op = .slice t x none (some y) none) (ht : T t = some ⟨.slice e, sz0, by0, z0⟩) (hx : ev fr x = .sl r off len s) (hy : ev fr y = .i k (h : Int))
    {i : TI} (hi : T e = some i) (hs : i.sz = s) (hR : m[r]? = some (.row e' n s f)) (hh : off + h ≤ n) : QOK P o fr m (.sl r off h s) m :=
  .of_run fun N ρ ac w hf hr => by
    obtain ⟨h0, hsc, _⟩ := ev_eq hf (x := x) hx (by simp)
    obtain ⟨h1, _⟩ := ev_eq hf (x := y) hy (by simp)
    have hu := (hT t _ ht).fits
    simp only [Ty.fits] at hu
    have hel : P.elem t = e := by simp [Program.elem, hu]
    have hu' : P.underlying t = some (.slice (P.elem t)) := by rw [hel]; exact hu
    have hnil := hr.mine_nil hR rfl (.inl ⟨rfl, rfl⟩)
    have hcap : n ≤ (ρ r []).cap := by
      obtain ⟨blk, hb, _, _, hc, _⟩ := hr.row r _ _ [] e' n s f hR rfl rfl rfl (.inl rfl)
      exact hc
    refine ⟨?_, hsc, trivial, trivial⟩
    obtain ⟨ti, z, g1, _, _, g4, _, _⟩ := info_all (hT e i hi)
    simp only [execOp, ho, Option.map_none, Option.map_some, h0, h1, enc, leaf, RV.slice, hnil]
    have h2 := run_sliceAt_slice (P := P) w t (.slice (some ⟨(ρ r []).b, (ρ r []).o + off * s, none⟩) len ((ρ r []).cap - off)) none (some (.int k (h : Int))) none hu'
    have := run_slice_h (P := P) w t (some ⟨(ρ r []).b, (ρ r []).o + off * s, none⟩) len ((ρ r []).cap - off) hu' k (h : Int) (by omega) (by omega)
    simp only [Sem.run_bind, h2, this, hel, sizeOf, typeInfo, g1, Sem.run_pure, Result.andThen_ok, sliced, Int.toNat_natCast, Nat.sub_zero, Nat.zero_mul]
    simp [Addr.add, g1, Result.andThen]

end
end Go.Proofs.Ytokhjhkicledmaa.DM

/- A library function that turns the numbers of a row in place. -/
namespace Go.Proofs.Ytokhjhkicledmaa.DM
open Go.RowKit
set_option linter.unusedVariables false
set_option linter.unusedSimpArgs false

section
variable {P : Program}

end
end Go.Proofs.Ytokhjhkicledmaa.DM

/- xs[l:], copy; comparing a slice with nil. -/
namespace Go.Proofs.Ytokhjhkicledmaa.DM
open Go.RowKit
set_option linter.unusedVariables false
set_option linter.unusedSimpArgs false

section
variable {P : Program} {T : TyEnv} {fr : Nat → Dat} {m : List Root}

end
end Go.Proofs.Ytokhjhkicledmaa.DM

/- A slice compared with nil. -/
namespace Go.Proofs.Ytokhjhkicledmaa.DM
open Go.RowKit
set_option linter.unusedVariables false
set_option linter.unusedSimpArgs false

section
variable {P : Program} {T : TyEnv} {fr : Nat → Dat} {m : List Root}

end
end Go.Proofs.Ytokhjhkicledmaa.DM
