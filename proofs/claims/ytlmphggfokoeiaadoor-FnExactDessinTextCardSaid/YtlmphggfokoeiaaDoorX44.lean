import Derived.Test.YtlmphggfokoeiaaDoorL3
import Derived.Test.YtlmphggfokoeiaaDoorL10
import Derived.Test.YtlmphggfokoeiaaDoorL9
import Derived.Test.YtlmphggfokoeiaaDoorShelf
import Derived.Test.YtlmphggfokoeiaaDoorD18
import Derived.Laws.Slices
import Derived.Laws.AppendOwn
import Derived.Laws.CopyRow
import Derived.Laws.Cover3
import Derived.Sort.OwnSortedInts
import Derived.Test.YtlmphggfokoeiaaDoorX10
/- Orders of permutations: both sides; the law. -/
namespace Go.Proofs.YtlmphggfokoeiaaDoor
open Go.RowKit DM
set_option linter.unusedSimpArgs false
set_option linter.unusedVariables false
set_option maxRecDepth 100000
set_option maxHeartbeats 1000000

theorem tmodC (x y : Nat) : Int.tmod (x : Int) (y : Int) = ((x % y : Nat) : Int) := (Int.ofNat_tmod x y).symm
theorem tdivC (x y : Nat) : Int.tdiv (x : Int) (y : Int) = ((x / y : Nat) : Int) := (Int.ofNat_tdiv x y).symm

end Go.Proofs.YtlmphggfokoeiaaDoor
