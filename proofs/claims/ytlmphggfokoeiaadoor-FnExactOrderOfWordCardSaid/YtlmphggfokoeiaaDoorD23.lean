import Derived.Test.YtlmphggfokoeiaaDoorD22
import Derived.Laws.Strings
import Derived.Laws.Concat
/- Strings: compared, laid end to end. -/
namespace Go.Proofs.YtlmphggfokoeiaaDoor.DM
open Go.RowKit
set_option linter.unusedVariables false
set_option linter.unusedSimpArgs false

section
variable {P : Program} {T : TyEnv} {fr : Nat → Dat} {m : List Root}

theorem strEq_ok {o : Oper} {t t' : TypeId} {x y : Operand} {a b : ByteArray} (ho : o.op = .binOp .eql t x y t') (hx : ev fr x = .s a) (hy : ev fr y = .s b) : QOK P o fr m (.b (a.toList == b.toList)) m :=
  .of_run fun N ρ ac w hf hr => by
    obtain ⟨h0, _⟩ := ev_eq hf (x := x) hx (by simp)
    obtain ⟨h1, _⟩ := ev_eq hf (x := y) hy (by simp)
    refine ⟨?_, trivial, trivial, trivial⟩
    simp [execOp, ho, h0, h1, enc, leaf, eqGuard, binOp_string_eql, Result.andThen]

end
end Go.Proofs.YtlmphggfokoeiaaDoor.DM
