/-
  No cell of these rows narrows 'for every input' (looked for: loops, veiled, ifaces, maps, wideKeys, modest, calm, conditions, laid).
  DERIVED. THE GIVEN ROWS OF THIS SEAT. 5 by the template 'for every input the law returns true; each argument reads behind the call as it read before'; 0 by the template 'total and deterministic' (their statements: YtaafldclbdlgfaaTotals.lean).
  GIVEN WITH THE SEED: the statements are not yours to turn. If you find one false, say at which input.
  Laid BY PROGRAM, IN A SANDBOX (cutbox-rows.mjs): the forced cells as the released guide's own fill.sh prints them over the translation 77b138667ae1c129… (all of the seat's roots in one cut). By AI agents, Wed Nov 11 2026. No macro, syntax, notation, axiom, sorry.
-/
import Derived.Test.YtaafldclbdlgfaaChecked
import GoSem.Claim
import GoSem.ClaimJoined
import GoSem.ClaimMapViews
import Derived.JoinedTies
import Derived.KernelRfl
namespace Go.Proofs.Ytaafldclbdlgfaa
/- THE CELL 'sum', in the pinned program and in every row, IS THE sha256 OF THE DUMP (.gsa) THAT YtaafldclbdlgfaaProg.lean LOADS. Nothing in Lean hashes anything: it is a label: what it is worth is what the hold of that sum in a sandbox is worth. -/
noncomputable def Try.pinned : Pinned := { name := "ytaafldclbdlgfaa", sum := "77b138667ae1c1291bcfcbeb85343bfc074e49791dd6a17b873f99e603681be8", checked := Try.checked }
namespace Rows
def none {H : Type} : Left H := { results := [], args := [] }

/-- 'laws.FnExactProductAt': WHATEVER THE INPUT: true; the input reads as it did. -/
def fnExactProductAtSpec : ChangeSpec := { name := "fnExactProductAt", fn := fun _ => fun
  | [d1, d2, d3, d4] => { results := [.lit (.bool true)], args := [d1, d2, d3, d4] }
  | _ => none }
def fnExactProductAtRow : OpenClaim := { program := "ytaafldclbdlgfaa", sum := "77b138667ae1c1291bcfcbeb85343bfc074e49791dd6a17b873f99e603681be8", func := "loop.example/g01200/laws.FnExactProductAt", spec := "fnExactProductAt", plainKeys := false, apart := false }
def FnExactProductAtSaid : Prop := fnExactProductAtRow.holds Try.pinned (OpenSpec.ofChange fnExactProductAtSpec)

/-- ITS FALSE NEIGHBOUR: 'it returns false'. Refute it at one input. -/
def fnExactProductAtWrong : ChangeSpec := { name := "fnExactProductAt", fn := fun _ => fun
  | [d1, d2, d3, d4] => { results := [.lit (.bool false)], args := [d1, d2, d3, d4] }
  | _ => none }
def FnExactProductAtWrongFalsely : Prop := fnExactProductAtRow.holds Try.pinned (OpenSpec.ofChange fnExactProductAtWrong)

/-- 'laws.FnExactElementTypes': WHATEVER THE INPUT: true; the input reads as it did. -/
def fnExactElementTypesSpec : ChangeSpec := { name := "fnExactElementTypes", fn := fun _ => fun
  | [d] => { results := [.lit (.bool true)], args := [d] }
  | _ => none }
def fnExactElementTypesRow : OpenClaim := { program := "ytaafldclbdlgfaa", sum := "77b138667ae1c1291bcfcbeb85343bfc074e49791dd6a17b873f99e603681be8", func := "loop.example/g01200/laws.FnExactElementTypes", spec := "fnExactElementTypes", unfollowed := true, recurses := true, plainKeys := false, apart := false }
def FnExactElementTypesSaid : Prop := fnExactElementTypesRow.holds Try.pinned (OpenSpec.ofChange fnExactElementTypesSpec)

/-- ITS FALSE NEIGHBOUR: 'it returns false'. Refute it at one input. -/
def fnExactElementTypesWrong : ChangeSpec := { name := "fnExactElementTypes", fn := fun _ => fun
  | [d] => { results := [.lit (.bool false)], args := [d] }
  | _ => none }
def FnExactElementTypesWrongFalsely : Prop := fnExactElementTypesRow.holds Try.pinned (OpenSpec.ofChange fnExactElementTypesWrong)

/-- 'laws.FnExactBlocksOf': WHATEVER THE INPUT: true; the input reads as it did. -/
def fnExactBlocksOfSpec : ChangeSpec := { name := "fnExactBlocksOf", fn := fun _ => fun
  | [d] => { results := [.lit (.bool true)], args := [d] }
  | _ => none }
def fnExactBlocksOfRow : OpenClaim := { program := "ytaafldclbdlgfaa", sum := "77b138667ae1c1291bcfcbeb85343bfc074e49791dd6a17b873f99e603681be8", func := "loop.example/g01200/laws.FnExactBlocksOf", spec := "fnExactBlocksOf", unfollowed := true, recurses := true, plainKeys := false, apart := false }
def FnExactBlocksOfSaid : Prop := fnExactBlocksOfRow.holds Try.pinned (OpenSpec.ofChange fnExactBlocksOfSpec)

/-- ITS FALSE NEIGHBOUR: 'it returns false'. Refute it at one input. -/
def fnExactBlocksOfWrong : ChangeSpec := { name := "fnExactBlocksOf", fn := fun _ => fun
  | [d] => { results := [.lit (.bool false)], args := [d] }
  | _ => none }
def FnExactBlocksOfWrongFalsely : Prop := fnExactBlocksOfRow.holds Try.pinned (OpenSpec.ofChange fnExactBlocksOfWrong)

/-- 'laws.FnExactIsPrimitive': WHATEVER THE INPUT: true; the input reads as it did. -/
def fnExactIsPrimitiveSpec : ChangeSpec := { name := "fnExactIsPrimitive", fn := fun _ => fun
  | [d] => { results := [.lit (.bool true)], args := [d] }
  | _ => none }
def fnExactIsPrimitiveRow : OpenClaim := { program := "ytaafldclbdlgfaa", sum := "77b138667ae1c1291bcfcbeb85343bfc074e49791dd6a17b873f99e603681be8", func := "loop.example/g01200/laws.FnExactIsPrimitive", spec := "fnExactIsPrimitive", unfollowed := true, recurses := true, plainKeys := false, apart := false }
def FnExactIsPrimitiveSaid : Prop := fnExactIsPrimitiveRow.holds Try.pinned (OpenSpec.ofChange fnExactIsPrimitiveSpec)

/-- ITS FALSE NEIGHBOUR: 'it returns false'. Refute it at one input. -/
def fnExactIsPrimitiveWrong : ChangeSpec := { name := "fnExactIsPrimitive", fn := fun _ => fun
  | [d] => { results := [.lit (.bool false)], args := [d] }
  | _ => none }
def FnExactIsPrimitiveWrongFalsely : Prop := fnExactIsPrimitiveRow.holds Try.pinned (OpenSpec.ofChange fnExactIsPrimitiveWrong)

/-- 'laws.FnExactProductSizes': WHATEVER THE INPUT: true; the input reads as it did. -/
def fnExactProductSizesSpec : ChangeSpec := { name := "fnExactProductSizes", fn := fun _ => fun
  | [d1, d2] => { results := [.lit (.bool true)], args := [d1, d2] }
  | _ => none }
def fnExactProductSizesRow : OpenClaim := { program := "ytaafldclbdlgfaa", sum := "77b138667ae1c1291bcfcbeb85343bfc074e49791dd6a17b873f99e603681be8", func := "loop.example/g01200/laws.FnExactProductSizes", spec := "fnExactProductSizes", recurses := true, plainKeys := false, apart := false }
def FnExactProductSizesSaid : Prop := fnExactProductSizesRow.holds Try.pinned (OpenSpec.ofChange fnExactProductSizesSpec)

/-- ITS FALSE NEIGHBOUR: 'it returns false'. Refute it at one input. -/
def fnExactProductSizesWrong : ChangeSpec := { name := "fnExactProductSizes", fn := fun _ => fun
  | [d1, d2] => { results := [.lit (.bool false)], args := [d1, d2] }
  | _ => none }
def FnExactProductSizesWrongFalsely : Prop := fnExactProductSizesRow.holds Try.pinned (OpenSpec.ofChange fnExactProductSizesWrong)

/- THE SECOND FORM. 'bulk': how many values and letters a reading holds, each counted each time it is reached (what is shared counts as often as it is met; a slice's spare places count too). A statement '..UptoSaid' is the law's where the arguments, and the package variables that the reading takes, are together of bulk at most 1048576: NARROWER than '..Said'. Prove '..Said' where nothing that the law and all that it calls make is longer than what came in: it says more and counts as full. Else prove '..UptoSaid'. A law counts once. -/
mutual
def uptoBulk {H : Type} : DataW H → Nat
  | .lit (.string bytes) => bytes.length + 1
  | .lit _ => 1
  | .nil => 1
  | .ptr d => uptoBulk d + 1
  | .slice elems spare => uptoBulkAll elems + uptoBulkAll spare + 1
  | .agg parts => uptoBulkAll parts + 1
  | .iface _ d => uptoBulk d + 1
  | .map entries => uptoBulkEntries entries + 1
  | .held _ => 1
def uptoBulkAll {H : Type} : List (DataW H) → Nat
  | [] => 0
  | d :: r => uptoBulk d + uptoBulkAll r
def uptoBulkEntries {H : Type} : List (Lit × DataW H) → Nat
  | [] => 0
  | x :: r => uptoBulkEntry x + uptoBulkEntries r
def uptoBulkEntry {H : Type} : Lit × DataW H → Nat
  | (.string bytes, d) => bytes.length + uptoBulk d + 1
  | (_, d) => uptoBulk d + 1
 end
def uptoSmall : (H : Type) → List (DataW H) → Bool := fun _ ds => decide (uptoBulkAll ds ≤ 1048576)
def OpenSpec.upto (s : _root_.Go.ChangeSpec) : _root_.Go.OpenSpec := { _root_.Go.OpenSpec.ofChange s with cond := some uptoSmall }

/-- 'laws.FnExactProductAt', WHERE WHAT IT READS IS OF BULK AT MOST 1048576: true; the input reads as it did. -/
def fnExactProductAtUptoRow : OpenClaim := { program := "ytaafldclbdlgfaa", sum := "77b138667ae1c1291bcfcbeb85343bfc074e49791dd6a17b873f99e603681be8", func := "loop.example/g01200/laws.FnExactProductAt", spec := "fnExactProductAt", plainKeys := false, apart := false, narrowed := true }
def FnExactProductAtUptoSaid : Prop := fnExactProductAtUptoRow.holds Try.pinned (OpenSpec.upto fnExactProductAtSpec)

/-- 'laws.FnExactElementTypes', WHERE WHAT IT READS IS OF BULK AT MOST 1048576: true; the input reads as it did. -/
def fnExactElementTypesUptoRow : OpenClaim := { program := "ytaafldclbdlgfaa", sum := "77b138667ae1c1291bcfcbeb85343bfc074e49791dd6a17b873f99e603681be8", func := "loop.example/g01200/laws.FnExactElementTypes", spec := "fnExactElementTypes", unfollowed := true, recurses := true, plainKeys := false, apart := false, narrowed := true }
def FnExactElementTypesUptoSaid : Prop := fnExactElementTypesUptoRow.holds Try.pinned (OpenSpec.upto fnExactElementTypesSpec)

/-- 'laws.FnExactBlocksOf', WHERE WHAT IT READS IS OF BULK AT MOST 1048576: true; the input reads as it did. -/
def fnExactBlocksOfUptoRow : OpenClaim := { program := "ytaafldclbdlgfaa", sum := "77b138667ae1c1291bcfcbeb85343bfc074e49791dd6a17b873f99e603681be8", func := "loop.example/g01200/laws.FnExactBlocksOf", spec := "fnExactBlocksOf", unfollowed := true, recurses := true, plainKeys := false, apart := false, narrowed := true }
def FnExactBlocksOfUptoSaid : Prop := fnExactBlocksOfUptoRow.holds Try.pinned (OpenSpec.upto fnExactBlocksOfSpec)

/-- 'laws.FnExactIsPrimitive', WHERE WHAT IT READS IS OF BULK AT MOST 1048576: true; the input reads as it did. -/
def fnExactIsPrimitiveUptoRow : OpenClaim := { program := "ytaafldclbdlgfaa", sum := "77b138667ae1c1291bcfcbeb85343bfc074e49791dd6a17b873f99e603681be8", func := "loop.example/g01200/laws.FnExactIsPrimitive", spec := "fnExactIsPrimitive", unfollowed := true, recurses := true, plainKeys := false, apart := false, narrowed := true }
def FnExactIsPrimitiveUptoSaid : Prop := fnExactIsPrimitiveUptoRow.holds Try.pinned (OpenSpec.upto fnExactIsPrimitiveSpec)

/-- 'laws.FnExactProductSizes', WHERE WHAT IT READS IS OF BULK AT MOST 1048576: true; the input reads as it did. -/
def fnExactProductSizesUptoRow : OpenClaim := { program := "ytaafldclbdlgfaa", sum := "77b138667ae1c1291bcfcbeb85343bfc074e49791dd6a17b873f99e603681be8", func := "loop.example/g01200/laws.FnExactProductSizes", spec := "fnExactProductSizes", recurses := true, plainKeys := false, apart := false, narrowed := true }
def FnExactProductSizesUptoSaid : Prop := fnExactProductSizesUptoRow.holds Try.pinned (OpenSpec.upto fnExactProductSizesSpec)

end Rows
end Go.Proofs.Ytaafldclbdlgfaa
