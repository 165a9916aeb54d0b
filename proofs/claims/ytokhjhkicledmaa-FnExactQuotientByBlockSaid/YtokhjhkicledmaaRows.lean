/-
  No cell of these rows narrows 'for every input' (looked for: loops, veiled, ifaces, maps, wideKeys, modest, calm, conditions, laid).
  DERIVED. THE GIVEN ROWS OF THIS SEAT. 8 by the template 'for every input the law returns true; each argument reads behind the call as it read before'; 0 by the template 'total and deterministic' (their statements: YtokhjhkicledmaaTotals.lean).
  GIVEN WITH THE SEED: the statements are not yours to turn. If you find one false, say at which input.
  Laid BY PROGRAM, IN A SANDBOX (cutbox-rows.mjs): the forced cells as the released guide's own fill.sh prints them over the translation 2c981d056e07acc3… (all of the seat's roots in one cut). By AI agents, Wed Nov 11 2026. No macro, syntax, notation, axiom, sorry.
-/
import Derived.Test.YtokhjhkicledmaaChecked
import GoSem.Claim
import GoSem.ClaimJoined
import GoSem.ClaimMapViews
import Derived.JoinedTies
import Derived.KernelRfl
namespace Go.Proofs.Ytokhjhkicledmaa
/- THE CELL 'sum', in the pinned program and in every row, IS THE sha256 OF THE DUMP (.gsa) THAT YtokhjhkicledmaaProg.lean LOADS. Nothing in Lean hashes anything: it is a label: what it is worth is what the hold of that sum in a sandbox is worth. -/
noncomputable def Try.pinned : Pinned := { name := "ytokhjhkicledmaa", sum := "2c981d056e07acc3fc8dae5064e4a16051be82f03585096613c41da053c1819d", checked := Try.checked }
namespace Rows
def none {H : Type} : Left H := { results := [], args := [] }

/-- 'laws.FnExactInGroup': WHATEVER THE INPUT: true; the input reads as it did. -/
def fnExactInGroupSpec : ChangeSpec := { name := "fnExactInGroup", fn := fun _ => fun
  | [d1, d2] => { results := [.lit (.bool true)], args := [d1, d2] }
  | _ => none }
def fnExactInGroupRow : OpenClaim := { program := "ytokhjhkicledmaa", sum := "2c981d056e07acc3fc8dae5064e4a16051be82f03585096613c41da053c1819d", func := "loop.example/g01200/laws.FnExactInGroup", spec := "fnExactInGroup", recurses := true, apart := false }
def FnExactInGroupSaid : Prop := fnExactInGroupRow.holds Try.pinned (OpenSpec.ofChange fnExactInGroupSpec)

/-- ITS FALSE NEIGHBOUR: 'it returns false'. Refute it at one input. -/
def fnExactInGroupWrong : ChangeSpec := { name := "fnExactInGroup", fn := fun _ => fun
  | [d1, d2] => { results := [.lit (.bool false)], args := [d1, d2] }
  | _ => none }
def FnExactInGroupWrongFalsely : Prop := fnExactInGroupRow.holds Try.pinned (OpenSpec.ofChange fnExactInGroupWrong)

/-- 'laws.FnExactGroupOrder': WHATEVER THE INPUT: true; the input reads as it did. -/
def fnExactGroupOrderSpec : ChangeSpec := { name := "fnExactGroupOrder", fn := fun _ => fun
  | [d] => { results := [.lit (.bool true)], args := [d] }
  | _ => none }
def fnExactGroupOrderRow : OpenClaim := { program := "ytokhjhkicledmaa", sum := "2c981d056e07acc3fc8dae5064e4a16051be82f03585096613c41da053c1819d", func := "loop.example/g01200/laws.FnExactGroupOrder", spec := "fnExactGroupOrder", recurses := true, apart := false }
def FnExactGroupOrderSaid : Prop := fnExactGroupOrderRow.holds Try.pinned (OpenSpec.ofChange fnExactGroupOrderSpec)

/-- ITS FALSE NEIGHBOUR: 'it returns false'. Refute it at one input. -/
def fnExactGroupOrderWrong : ChangeSpec := { name := "fnExactGroupOrder", fn := fun _ => fun
  | [d] => { results := [.lit (.bool false)], args := [d] }
  | _ => none }
def FnExactGroupOrderWrongFalsely : Prop := fnExactGroupOrderRow.holds Try.pinned (OpenSpec.ofChange fnExactGroupOrderWrong)

/-- 'laws.FnExactIsRegular': WHATEVER THE INPUT: true; the input reads as it did. -/
def fnExactIsRegularSpec : ChangeSpec := { name := "fnExactIsRegular", fn := fun _ => fun
  | [d] => { results := [.lit (.bool true)], args := [d] }
  | _ => none }
def fnExactIsRegularRow : OpenClaim := { program := "ytokhjhkicledmaa", sum := "2c981d056e07acc3fc8dae5064e4a16051be82f03585096613c41da053c1819d", func := "loop.example/g01200/laws.FnExactIsRegular", spec := "fnExactIsRegular", recurses := true, apart := false }
def FnExactIsRegularSaid : Prop := fnExactIsRegularRow.holds Try.pinned (OpenSpec.ofChange fnExactIsRegularSpec)

/-- ITS FALSE NEIGHBOUR: 'it returns false'. Refute it at one input. -/
def fnExactIsRegularWrong : ChangeSpec := { name := "fnExactIsRegular", fn := fun _ => fun
  | [d] => { results := [.lit (.bool false)], args := [d] }
  | _ => none }
def FnExactIsRegularWrongFalsely : Prop := fnExactIsRegularRow.holds Try.pinned (OpenSpec.ofChange fnExactIsRegularWrong)

/-- 'laws.FnExactIsSolvable': WHATEVER THE INPUT: true; the input reads as it did. -/
def fnExactIsSolvableSpec : ChangeSpec := { name := "fnExactIsSolvable", fn := fun _ => fun
  | [d] => { results := [.lit (.bool true)], args := [d] }
  | _ => none }
def fnExactIsSolvableRow : OpenClaim := { program := "ytokhjhkicledmaa", sum := "2c981d056e07acc3fc8dae5064e4a16051be82f03585096613c41da053c1819d", func := "loop.example/g01200/laws.FnExactIsSolvable", spec := "fnExactIsSolvable", unfollowed := true, recurses := true, apart := false }
def FnExactIsSolvableSaid : Prop := fnExactIsSolvableRow.holds Try.pinned (OpenSpec.ofChange fnExactIsSolvableSpec)

/-- ITS FALSE NEIGHBOUR: 'it returns false'. Refute it at one input. -/
def fnExactIsSolvableWrong : ChangeSpec := { name := "fnExactIsSolvable", fn := fun _ => fun
  | [d] => { results := [.lit (.bool false)], args := [d] }
  | _ => none }
def FnExactIsSolvableWrongFalsely : Prop := fnExactIsSolvableRow.holds Try.pinned (OpenSpec.ofChange fnExactIsSolvableWrong)

/-- 'laws.FnExactQuotientByBlock': WHATEVER THE INPUT: true; the input reads as it did. -/
def fnExactQuotientByBlockSpec : ChangeSpec := { name := "fnExactQuotientByBlock", fn := fun _ => fun
  | [d1, d2] => { results := [.lit (.bool true)], args := [d1, d2] }
  | _ => none }
def fnExactQuotientByBlockRow : OpenClaim := { program := "ytokhjhkicledmaa", sum := "2c981d056e07acc3fc8dae5064e4a16051be82f03585096613c41da053c1819d", func := "loop.example/g01200/laws.FnExactQuotientByBlock", spec := "fnExactQuotientByBlock", apart := false }
def FnExactQuotientByBlockSaid : Prop := fnExactQuotientByBlockRow.holds Try.pinned (OpenSpec.ofChange fnExactQuotientByBlockSpec)

/-- ITS FALSE NEIGHBOUR: 'it returns false'. Refute it at one input. -/
def fnExactQuotientByBlockWrong : ChangeSpec := { name := "fnExactQuotientByBlock", fn := fun _ => fun
  | [d1, d2] => { results := [.lit (.bool false)], args := [d1, d2] }
  | _ => none }
def FnExactQuotientByBlockWrongFalsely : Prop := fnExactQuotientByBlockRow.holds Try.pinned (OpenSpec.ofChange fnExactQuotientByBlockWrong)

/-- 'laws.FnExactDerivedSeries': WHATEVER THE INPUT: true; the input reads as it did. -/
def fnExactDerivedSeriesSpec : ChangeSpec := { name := "fnExactDerivedSeries", fn := fun _ => fun
  | [d] => { results := [.lit (.bool true)], args := [d] }
  | _ => none }
def fnExactDerivedSeriesRow : OpenClaim := { program := "ytokhjhkicledmaa", sum := "2c981d056e07acc3fc8dae5064e4a16051be82f03585096613c41da053c1819d", func := "loop.example/g01200/laws.FnExactDerivedSeries", spec := "fnExactDerivedSeries", unfollowed := true, recurses := true, apart := false }
def FnExactDerivedSeriesSaid : Prop := fnExactDerivedSeriesRow.holds Try.pinned (OpenSpec.ofChange fnExactDerivedSeriesSpec)

/-- ITS FALSE NEIGHBOUR: 'it returns false'. Refute it at one input. -/
def fnExactDerivedSeriesWrong : ChangeSpec := { name := "fnExactDerivedSeries", fn := fun _ => fun
  | [d] => { results := [.lit (.bool false)], args := [d] }
  | _ => none }
def FnExactDerivedSeriesWrongFalsely : Prop := fnExactDerivedSeriesRow.holds Try.pinned (OpenSpec.ofChange fnExactDerivedSeriesWrong)

/-- 'laws.FnExactClosureGenus': WHATEVER THE INPUT: true; the input reads as it did. -/
def fnExactClosureGenusSpec : ChangeSpec := { name := "fnExactClosureGenus", fn := fun _ => fun
  | [d] => { results := [.lit (.bool true)], args := [d] }
  | _ => none }
def fnExactClosureGenusRow : OpenClaim := { program := "ytokhjhkicledmaa", sum := "2c981d056e07acc3fc8dae5064e4a16051be82f03585096613c41da053c1819d", func := "loop.example/g01200/laws.FnExactClosureGenus", spec := "fnExactClosureGenus", recurses := true, apart := false }
def FnExactClosureGenusSaid : Prop := fnExactClosureGenusRow.holds Try.pinned (OpenSpec.ofChange fnExactClosureGenusSpec)

/-- ITS FALSE NEIGHBOUR: 'it returns false'. Refute it at one input. -/
def fnExactClosureGenusWrong : ChangeSpec := { name := "fnExactClosureGenus", fn := fun _ => fun
  | [d] => { results := [.lit (.bool false)], args := [d] }
  | _ => none }
def FnExactClosureGenusWrongFalsely : Prop := fnExactClosureGenusRow.holds Try.pinned (OpenSpec.ofChange fnExactClosureGenusWrong)

/-- 'laws.FnExactElementTypes': WHATEVER THE INPUT: true; the input reads as it did. -/
def fnExactElementTypesSpec : ChangeSpec := { name := "fnExactElementTypes", fn := fun _ => fun
  | [d] => { results := [.lit (.bool true)], args := [d] }
  | _ => none }
def fnExactElementTypesRow : OpenClaim := { program := "ytokhjhkicledmaa", sum := "2c981d056e07acc3fc8dae5064e4a16051be82f03585096613c41da053c1819d", func := "loop.example/g01200/laws.FnExactElementTypes", spec := "fnExactElementTypes", unfollowed := true, recurses := true, apart := false }
def FnExactElementTypesSaid : Prop := fnExactElementTypesRow.holds Try.pinned (OpenSpec.ofChange fnExactElementTypesSpec)

/-- ITS FALSE NEIGHBOUR: 'it returns false'. Refute it at one input. -/
def fnExactElementTypesWrong : ChangeSpec := { name := "fnExactElementTypes", fn := fun _ => fun
  | [d] => { results := [.lit (.bool false)], args := [d] }
  | _ => none }
def FnExactElementTypesWrongFalsely : Prop := fnExactElementTypesRow.holds Try.pinned (OpenSpec.ofChange fnExactElementTypesWrong)

/- THE SECOND FORM. 'bulk': how many values and letters a reading holds, each counted each time it is reached (what is shared counts as often as it is met; a slice's spare places count too). A statement '..UptoSaid' is the law's where the arguments, and the package variables that the reading takes, are together of bulk at most 1048576: NARROWER than '..Said'. Prove '..Said' where nothing that the law and all that it calls make is longer than what came in: it says more and counts as full. Else prove '..UptoSaid'. A law counts once. -/
mutual
def uptoBulk {H : Type} : DataW H → Nat
  | .lit (.string bytes) => bytes.length + 1
  | .lit _ => 1
  | .nil => 1
  | .ptr d => uptoBulk d + 1
  | .slice elems spare => uptoBulkAll elems + uptoBulkAll spare + 1
  | .agg parts => uptoBulkAll parts + 1
  | .iface _ d => uptoBulk d + 1
  | .map entries => uptoBulkEntries entries + 1
  | .held _ => 1
def uptoBulkAll {H : Type} : List (DataW H) → Nat
  | [] => 0
  | d :: r => uptoBulk d + uptoBulkAll r
def uptoBulkEntries {H : Type} : List (Lit × DataW H) → Nat
  | [] => 0
  | x :: r => uptoBulkEntry x + uptoBulkEntries r
def uptoBulkEntry {H : Type} : Lit × DataW H → Nat
  | (.string bytes, d) => bytes.length + uptoBulk d + 1
  | (_, d) => uptoBulk d + 1
 end
def uptoSmall : (H : Type) → List (DataW H) → Bool := fun _ ds => decide (uptoBulkAll ds ≤ 1048576)
def OpenSpec.upto (s : _root_.Go.ChangeSpec) : _root_.Go.OpenSpec := { _root_.Go.OpenSpec.ofChange s with cond := some uptoSmall }

/-- 'laws.FnExactInGroup', WHERE WHAT IT READS IS OF BULK AT MOST 1048576: true; the input reads as it did. -/
def fnExactInGroupUptoRow : OpenClaim := { program := "ytokhjhkicledmaa", sum := "2c981d056e07acc3fc8dae5064e4a16051be82f03585096613c41da053c1819d", func := "loop.example/g01200/laws.FnExactInGroup", spec := "fnExactInGroup", recurses := true, apart := false, narrowed := true }
def FnExactInGroupUptoSaid : Prop := fnExactInGroupUptoRow.holds Try.pinned (OpenSpec.upto fnExactInGroupSpec)

/-- 'laws.FnExactGroupOrder', WHERE WHAT IT READS IS OF BULK AT MOST 1048576: true; the input reads as it did. -/
def fnExactGroupOrderUptoRow : OpenClaim := { program := "ytokhjhkicledmaa", sum := "2c981d056e07acc3fc8dae5064e4a16051be82f03585096613c41da053c1819d", func := "loop.example/g01200/laws.FnExactGroupOrder", spec := "fnExactGroupOrder", recurses := true, apart := false, narrowed := true }
def FnExactGroupOrderUptoSaid : Prop := fnExactGroupOrderUptoRow.holds Try.pinned (OpenSpec.upto fnExactGroupOrderSpec)

/-- 'laws.FnExactIsRegular', WHERE WHAT IT READS IS OF BULK AT MOST 1048576: true; the input reads as it did. -/
def fnExactIsRegularUptoRow : OpenClaim := { program := "ytokhjhkicledmaa", sum := "2c981d056e07acc3fc8dae5064e4a16051be82f03585096613c41da053c1819d", func := "loop.example/g01200/laws.FnExactIsRegular", spec := "fnExactIsRegular", recurses := true, apart := false, narrowed := true }
def FnExactIsRegularUptoSaid : Prop := fnExactIsRegularUptoRow.holds Try.pinned (OpenSpec.upto fnExactIsRegularSpec)

/-- 'laws.FnExactIsSolvable', WHERE WHAT IT READS IS OF BULK AT MOST 1048576: true; the input reads as it did. -/
def fnExactIsSolvableUptoRow : OpenClaim := { program := "ytokhjhkicledmaa", sum := "2c981d056e07acc3fc8dae5064e4a16051be82f03585096613c41da053c1819d", func := "loop.example/g01200/laws.FnExactIsSolvable", spec := "fnExactIsSolvable", unfollowed := true, recurses := true, apart := false, narrowed := true }
def FnExactIsSolvableUptoSaid : Prop := fnExactIsSolvableUptoRow.holds Try.pinned (OpenSpec.upto fnExactIsSolvableSpec)

/-- 'laws.FnExactQuotientByBlock', WHERE WHAT IT READS IS OF BULK AT MOST 1048576: true; the input reads as it did. -/
def fnExactQuotientByBlockUptoRow : OpenClaim := { program := "ytokhjhkicledmaa", sum := "2c981d056e07acc3fc8dae5064e4a16051be82f03585096613c41da053c1819d", func := "loop.example/g01200/laws.FnExactQuotientByBlock", spec := "fnExactQuotientByBlock", apart := false, narrowed := true }
def FnExactQuotientByBlockUptoSaid : Prop := fnExactQuotientByBlockUptoRow.holds Try.pinned (OpenSpec.upto fnExactQuotientByBlockSpec)

/-- 'laws.FnExactDerivedSeries', WHERE WHAT IT READS IS OF BULK AT MOST 1048576: true; the input reads as it did. -/
def fnExactDerivedSeriesUptoRow : OpenClaim := { program := "ytokhjhkicledmaa", sum := "2c981d056e07acc3fc8dae5064e4a16051be82f03585096613c41da053c1819d", func := "loop.example/g01200/laws.FnExactDerivedSeries", spec := "fnExactDerivedSeries", unfollowed := true, recurses := true, apart := false, narrowed := true }
def FnExactDerivedSeriesUptoSaid : Prop := fnExactDerivedSeriesUptoRow.holds Try.pinned (OpenSpec.upto fnExactDerivedSeriesSpec)

/-- 'laws.FnExactClosureGenus', WHERE WHAT IT READS IS OF BULK AT MOST 1048576: true; the input reads as it did. -/
def fnExactClosureGenusUptoRow : OpenClaim := { program := "ytokhjhkicledmaa", sum := "2c981d056e07acc3fc8dae5064e4a16051be82f03585096613c41da053c1819d", func := "loop.example/g01200/laws.FnExactClosureGenus", spec := "fnExactClosureGenus", recurses := true, apart := false, narrowed := true }
def FnExactClosureGenusUptoSaid : Prop := fnExactClosureGenusUptoRow.holds Try.pinned (OpenSpec.upto fnExactClosureGenusSpec)

/-- 'laws.FnExactElementTypes', WHERE WHAT IT READS IS OF BULK AT MOST 1048576: true; the input reads as it did. -/
def fnExactElementTypesUptoRow : OpenClaim := { program := "ytokhjhkicledmaa", sum := "2c981d056e07acc3fc8dae5064e4a16051be82f03585096613c41da053c1819d", func := "loop.example/g01200/laws.FnExactElementTypes", spec := "fnExactElementTypes", unfollowed := true, recurses := true, apart := false, narrowed := true }
def FnExactElementTypesUptoSaid : Prop := fnExactElementTypesUptoRow.holds Try.pinned (OpenSpec.upto fnExactElementTypesSpec)

end Rows
end Go.Proofs.Ytokhjhkicledmaa
