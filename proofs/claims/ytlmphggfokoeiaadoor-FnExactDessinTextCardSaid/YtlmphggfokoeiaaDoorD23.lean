import Derived.Test.YtlmphggfokoeiaaDoorD18
import Derived.Laws.Slices
import Derived.Laws.AppendOwn
import Derived.Laws.CopyRow
import Derived.Laws.Cover3
import Derived.Laws.Strings
import Derived.Laws.Concat
/- Strings: compared, laid end to end. -/
namespace Go.Proofs.YtlmphggfokoeiaaDoor.DM
open Go.RowKit
set_option linter.unusedVariables false
set_option linter.unusedSimpArgs false

section
variable {P : Program} {T : TyEnv} {fr : Nat → Dat} {m : List Root}

theorem strEq_ok {o : Oper} {t t' : TypeId} {x y : Operand} {a b : ByteArray} (ho : o.op = .binOp .eql t x y t') (hx : ev fr x = .s a) (hy : ev fr y = .s b) : QOK P o fr m (.b (a.toList == b.toList)) m :=
  .of_run fun N ρ ac w hf hr => by
    obtain ⟨h0, _⟩ := ev_eq hf (x := x) hx (by simp)
    obtain ⟨h1, _⟩ := ev_eq hf (x := y) hy (by simp)
    refine ⟨?_, trivial, trivial, trivial⟩
    simp [execOp, ho, h0, h1, enc, leaf, eqGuard, binOp_string_eql, Result.andThen]

theorem strNe_ok {o : Oper} {t t' : TypeId} {x y : Operand} {a b : ByteArray} (ho : o.op = .binOp .neq t x y t') (hx : ev fr x = .s a) (hy : ev fr y = .s b) : QOK P o fr m (.b (!(a.toList == b.toList))) m :=
  .of_run fun N ρ ac w hf hr => by
    obtain ⟨h0, _⟩ := ev_eq hf (x := x) hx (by simp)
    obtain ⟨h1, _⟩ := ev_eq hf (x := y) hy (by simp)
    refine ⟨?_, trivial, trivial, trivial⟩
    simp [execOp, ho, h0, h1, enc, leaf, eqGuard, binOp_string_neq, Result.andThen]

theorem strAdd_ok {o : Oper} {t t' : TypeId} {x y : Operand} {a b : ByteArray} (ho : o.op = .binOp .add t x y t') (hx : ev fr x = .s a) (hy : ev fr y = .s b) (hl : a.size + b.size ≤ 9223372036854775807) : QOK P o fr m (.s (a ++ b)) m :=
  .of_run fun N ρ ac w hf hr => by
    obtain ⟨h0, _⟩ := ev_eq hf (x := x) hx (by simp)
    obtain ⟨h1, _⟩ := ev_eq hf (x := y) hy (by simp)
    refine ⟨?_, trivial, trivial, trivial⟩
    simp [execOp, ho, h0, h1, enc, leaf, eqGuard, binOp, run_string_add_sum w a b hl, Result.andThen]

end
end Go.Proofs.YtlmphggfokoeiaaDoor.DM
