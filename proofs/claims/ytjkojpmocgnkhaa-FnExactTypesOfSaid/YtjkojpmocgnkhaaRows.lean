/-
  No cell of these rows narrows 'for every input' (looked for: loops, veiled, ifaces, maps, wideKeys, modest, calm, conditions, laid).
  DERIVED. THE GIVEN ROWS OF THIS SEAT. 12 by the template 'for every input the law returns true; each argument reads behind the call as it read before'; 0 by the template 'total and deterministic' (their statements: YtjkojpmocgnkhaaTotals.lean).
  GIVEN WITH THE SEED: the statements are not yours to turn. If you find one false, say at which input.
  Laid BY PROGRAM, IN A SANDBOX (cutbox-rows.mjs): the forced cells as the released guide's own fill.sh prints them over the translation ca7cbbfd973bb368… (all of the seat's roots in one cut). By AI agents, Wed Nov 11 2026. No macro, syntax, notation, axiom, sorry.
-/
import Derived.Test.YtjkojpmocgnkhaaChecked
import GoSem.Claim
import GoSem.ClaimJoined
import GoSem.ClaimMapViews
import Derived.JoinedTies
import Derived.KernelRfl
namespace Go.Proofs.Ytjkojpmocgnkhaa
/- THE CELL 'sum', in the pinned program and in every row, IS THE sha256 OF THE DUMP (.gsa) THAT YtjkojpmocgnkhaaProg.lean LOADS. Nothing in Lean hashes anything: it is a label: what it is worth is what the hold of that sum in a sandbox is worth. -/
noncomputable def Try.pinned : Pinned := { name := "ytjkojpmocgnkhaa", sum := "ca7cbbfd973bb368b350a5073b9c0680fc1008c132a48b101e6c863f86822ca1", checked := Try.checked }
namespace Rows
def none {H : Type} : Left H := { results := [], args := [] }

/-- 'laws.FnExactConstants': WHATEVER THE INPUT: true; the input reads as it did. -/
def fnExactConstantsSpec : ChangeSpec := { name := "fnExactConstants", fn := fun _ => fun
  | [] => { results := [.lit (.bool true)], args := [] }
  | _ => none }
def fnExactConstantsRow : OpenClaim := { program := "ytjkojpmocgnkhaa", sum := "ca7cbbfd973bb368b350a5073b9c0680fc1008c132a48b101e6c863f86822ca1", func := "loop.example/g01200/laws.FnExactConstants", spec := "fnExactConstants", apart := false }
def FnExactConstantsSaid : Prop := fnExactConstantsRow.holds Try.pinned (OpenSpec.ofChange fnExactConstantsSpec)

/-- ITS FALSE NEIGHBOUR: 'it returns false'. Refute it at one input. -/
def fnExactConstantsWrong : ChangeSpec := { name := "fnExactConstants", fn := fun _ => fun
  | [] => { results := [.lit (.bool false)], args := [] }
  | _ => none }
def FnExactConstantsWrongFalsely : Prop := fnExactConstantsRow.holds Try.pinned (OpenSpec.ofChange fnExactConstantsWrong)

/-- 'laws.FnExactCountSubgroups': WHATEVER THE INPUT: true; the input reads as it did. -/
def fnExactCountSubgroupsSpec : ChangeSpec := { name := "fnExactCountSubgroups", fn := fun _ => fun
  | [d] => { results := [.lit (.bool true)], args := [d] }
  | _ => none }
def fnExactCountSubgroupsRow : OpenClaim := { program := "ytjkojpmocgnkhaa", sum := "ca7cbbfd973bb368b350a5073b9c0680fc1008c132a48b101e6c863f86822ca1", func := "loop.example/g01200/laws.FnExactCountSubgroups", spec := "fnExactCountSubgroups", apart := false }
def FnExactCountSubgroupsSaid : Prop := fnExactCountSubgroupsRow.holds Try.pinned (OpenSpec.ofChange fnExactCountSubgroupsSpec)

/-- ITS FALSE NEIGHBOUR: 'it returns false'. Refute it at one input. -/
def fnExactCountSubgroupsWrong : ChangeSpec := { name := "fnExactCountSubgroups", fn := fun _ => fun
  | [d] => { results := [.lit (.bool false)], args := [d] }
  | _ => none }
def FnExactCountSubgroupsWrongFalsely : Prop := fnExactCountSubgroupsRow.holds Try.pinned (OpenSpec.ofChange fnExactCountSubgroupsWrong)

/-- 'laws.FnExactIsPermutation': WHATEVER THE INPUT: true; the input reads as it did. -/
def fnExactIsPermutationSpec : ChangeSpec := { name := "fnExactIsPermutation", fn := fun _ => fun
  | [d1, d2] => { results := [.lit (.bool true)], args := [d1, d2] }
  | _ => none }
def fnExactIsPermutationRow : OpenClaim := { program := "ytjkojpmocgnkhaa", sum := "ca7cbbfd973bb368b350a5073b9c0680fc1008c132a48b101e6c863f86822ca1", func := "loop.example/g01200/laws.FnExactIsPermutation", spec := "fnExactIsPermutation", apart := false }
def FnExactIsPermutationSaid : Prop := fnExactIsPermutationRow.holds Try.pinned (OpenSpec.ofChange fnExactIsPermutationSpec)

/-- ITS FALSE NEIGHBOUR: 'it returns false'. Refute it at one input. -/
def fnExactIsPermutationWrong : ChangeSpec := { name := "fnExactIsPermutation", fn := fun _ => fun
  | [d1, d2] => { results := [.lit (.bool false)], args := [d1, d2] }
  | _ => none }
def FnExactIsPermutationWrongFalsely : Prop := fnExactIsPermutationRow.holds Try.pinned (OpenSpec.ofChange fnExactIsPermutationWrong)

/-- 'laws.FnExactIsType': WHATEVER THE INPUT: true; the input reads as it did. -/
def fnExactIsTypeSpec : ChangeSpec := { name := "fnExactIsType", fn := fun _ => fun
  | [d] => { results := [.lit (.bool true)], args := [d] }
  | _ => none }
def fnExactIsTypeRow : OpenClaim := { program := "ytjkojpmocgnkhaa", sum := "ca7cbbfd973bb368b350a5073b9c0680fc1008c132a48b101e6c863f86822ca1", func := "loop.example/g01200/laws.FnExactIsType", spec := "fnExactIsType", apart := false }
def FnExactIsTypeSaid : Prop := fnExactIsTypeRow.holds Try.pinned (OpenSpec.ofChange fnExactIsTypeSpec)

/-- ITS FALSE NEIGHBOUR: 'it returns false'. Refute it at one input. -/
def fnExactIsTypeWrong : ChangeSpec := { name := "fnExactIsType", fn := fun _ => fun
  | [d] => { results := [.lit (.bool false)], args := [d] }
  | _ => none }
def FnExactIsTypeWrongFalsely : Prop := fnExactIsTypeRow.holds Try.pinned (OpenSpec.ofChange fnExactIsTypeWrong)

/-- 'laws.FnExactStarDessin': WHATEVER THE INPUT: true; the input reads as it did. -/
def fnExactStarDessinSpec : ChangeSpec := { name := "fnExactStarDessin", fn := fun _ => fun
  | [d] => { results := [.lit (.bool true)], args := [d] }
  | _ => none }
def fnExactStarDessinRow : OpenClaim := { program := "ytjkojpmocgnkhaa", sum := "ca7cbbfd973bb368b350a5073b9c0680fc1008c132a48b101e6c863f86822ca1", func := "loop.example/g01200/laws.FnExactStarDessin", spec := "fnExactStarDessin", apart := false }
def FnExactStarDessinSaid : Prop := fnExactStarDessinRow.holds Try.pinned (OpenSpec.ofChange fnExactStarDessinSpec)

/-- ITS FALSE NEIGHBOUR: 'it returns false'. Refute it at one input. -/
def fnExactStarDessinWrong : ChangeSpec := { name := "fnExactStarDessin", fn := fun _ => fun
  | [d] => { results := [.lit (.bool false)], args := [d] }
  | _ => none }
def FnExactStarDessinWrongFalsely : Prop := fnExactStarDessinRow.holds Try.pinned (OpenSpec.ofChange fnExactStarDessinWrong)

/-- 'laws.FnExactChainDessin': WHATEVER THE INPUT: true; the input reads as it did. -/
def fnExactChainDessinSpec : ChangeSpec := { name := "fnExactChainDessin", fn := fun _ => fun
  | [d] => { results := [.lit (.bool true)], args := [d] }
  | _ => none }
def fnExactChainDessinRow : OpenClaim := { program := "ytjkojpmocgnkhaa", sum := "ca7cbbfd973bb368b350a5073b9c0680fc1008c132a48b101e6c863f86822ca1", func := "loop.example/g01200/laws.FnExactChainDessin", spec := "fnExactChainDessin", apart := false }
def FnExactChainDessinSaid : Prop := fnExactChainDessinRow.holds Try.pinned (OpenSpec.ofChange fnExactChainDessinSpec)

/-- ITS FALSE NEIGHBOUR: 'it returns false'. Refute it at one input. -/
def fnExactChainDessinWrong : ChangeSpec := { name := "fnExactChainDessin", fn := fun _ => fun
  | [d] => { results := [.lit (.bool false)], args := [d] }
  | _ => none }
def FnExactChainDessinWrongFalsely : Prop := fnExactChainDessinRow.holds Try.pinned (OpenSpec.ofChange fnExactChainDessinWrong)

/-- 'laws.FnExactBandDessin': WHATEVER THE INPUT: true; the input reads as it did. -/
def fnExactBandDessinSpec : ChangeSpec := { name := "fnExactBandDessin", fn := fun _ => fun
  | [d] => { results := [.lit (.bool true)], args := [d] }
  | _ => none }
def fnExactBandDessinRow : OpenClaim := { program := "ytjkojpmocgnkhaa", sum := "ca7cbbfd973bb368b350a5073b9c0680fc1008c132a48b101e6c863f86822ca1", func := "loop.example/g01200/laws.FnExactBandDessin", spec := "fnExactBandDessin", apart := false }
def FnExactBandDessinSaid : Prop := fnExactBandDessinRow.holds Try.pinned (OpenSpec.ofChange fnExactBandDessinSpec)

/-- ITS FALSE NEIGHBOUR: 'it returns false'. Refute it at one input. -/
def fnExactBandDessinWrong : ChangeSpec := { name := "fnExactBandDessin", fn := fun _ => fun
  | [d] => { results := [.lit (.bool false)], args := [d] }
  | _ => none }
def FnExactBandDessinWrongFalsely : Prop := fnExactBandDessinRow.holds Try.pinned (OpenSpec.ofChange fnExactBandDessinWrong)

/-- 'laws.FnExactBackPlaces': WHATEVER THE INPUT: true; the input reads as it did. -/
def fnExactBackPlacesSpec : ChangeSpec := { name := "fnExactBackPlaces", fn := fun _ => fun
  | [d1, d2] => { results := [.lit (.bool true)], args := [d1, d2] }
  | _ => none }
def fnExactBackPlacesRow : OpenClaim := { program := "ytjkojpmocgnkhaa", sum := "ca7cbbfd973bb368b350a5073b9c0680fc1008c132a48b101e6c863f86822ca1", func := "loop.example/g01200/laws.FnExactBackPlaces", spec := "fnExactBackPlaces", apart := false }
def FnExactBackPlacesSaid : Prop := fnExactBackPlacesRow.holds Try.pinned (OpenSpec.ofChange fnExactBackPlacesSpec)

/-- ITS FALSE NEIGHBOUR: 'it returns false'. Refute it at one input. -/
def fnExactBackPlacesWrong : ChangeSpec := { name := "fnExactBackPlaces", fn := fun _ => fun
  | [d1, d2] => { results := [.lit (.bool false)], args := [d1, d2] }
  | _ => none }
def FnExactBackPlacesWrongFalsely : Prop := fnExactBackPlacesRow.holds Try.pinned (OpenSpec.ofChange fnExactBackPlacesWrong)

/-- 'laws.FnExactThenPlaces': WHATEVER THE INPUT: true; the input reads as it did. -/
def fnExactThenPlacesSpec : ChangeSpec := { name := "fnExactThenPlaces", fn := fun _ => fun
  | [d1, d2, d3] => { results := [.lit (.bool true)], args := [d1, d2, d3] }
  | _ => none }
def fnExactThenPlacesRow : OpenClaim := { program := "ytjkojpmocgnkhaa", sum := "ca7cbbfd973bb368b350a5073b9c0680fc1008c132a48b101e6c863f86822ca1", func := "loop.example/g01200/laws.FnExactThenPlaces", spec := "fnExactThenPlaces", apart := false }
def FnExactThenPlacesSaid : Prop := fnExactThenPlacesRow.holds Try.pinned (OpenSpec.ofChange fnExactThenPlacesSpec)

/-- ITS FALSE NEIGHBOUR: 'it returns false'. Refute it at one input. -/
def fnExactThenPlacesWrong : ChangeSpec := { name := "fnExactThenPlaces", fn := fun _ => fun
  | [d1, d2, d3] => { results := [.lit (.bool false)], args := [d1, d2, d3] }
  | _ => none }
def FnExactThenPlacesWrongFalsely : Prop := fnExactThenPlacesRow.holds Try.pinned (OpenSpec.ofChange fnExactThenPlacesWrong)

/-- 'laws.FnExactIsDessin': WHATEVER THE INPUT: true; the input reads as it did. -/
def fnExactIsDessinSpec : ChangeSpec := { name := "fnExactIsDessin", fn := fun _ => fun
  | [d] => { results := [.lit (.bool true)], args := [d] }
  | _ => none }
def fnExactIsDessinRow : OpenClaim := { program := "ytjkojpmocgnkhaa", sum := "ca7cbbfd973bb368b350a5073b9c0680fc1008c132a48b101e6c863f86822ca1", func := "loop.example/g01200/laws.FnExactIsDessin", spec := "fnExactIsDessin", apart := false }
def FnExactIsDessinSaid : Prop := fnExactIsDessinRow.holds Try.pinned (OpenSpec.ofChange fnExactIsDessinSpec)

/-- ITS FALSE NEIGHBOUR: 'it returns false'. Refute it at one input. -/
def fnExactIsDessinWrong : ChangeSpec := { name := "fnExactIsDessin", fn := fun _ => fun
  | [d] => { results := [.lit (.bool false)], args := [d] }
  | _ => none }
def FnExactIsDessinWrongFalsely : Prop := fnExactIsDessinRow.holds Try.pinned (OpenSpec.ofChange fnExactIsDessinWrong)

/-- 'laws.FnExactTypesOf': WHATEVER THE INPUT: true; the input reads as it did. -/
def fnExactTypesOfSpec : ChangeSpec := { name := "fnExactTypesOf", fn := fun _ => fun
  | [d] => { results := [.lit (.bool true)], args := [d] }
  | _ => none }
def fnExactTypesOfRow : OpenClaim := { program := "ytjkojpmocgnkhaa", sum := "ca7cbbfd973bb368b350a5073b9c0680fc1008c132a48b101e6c863f86822ca1", func := "loop.example/g01200/laws.FnExactTypesOf", spec := "fnExactTypesOf", recurses := true, apart := false }
def FnExactTypesOfSaid : Prop := fnExactTypesOfRow.holds Try.pinned (OpenSpec.ofChange fnExactTypesOfSpec)

/-- ITS FALSE NEIGHBOUR: 'it returns false'. Refute it at one input. -/
def fnExactTypesOfWrong : ChangeSpec := { name := "fnExactTypesOf", fn := fun _ => fun
  | [d] => { results := [.lit (.bool false)], args := [d] }
  | _ => none }
def FnExactTypesOfWrongFalsely : Prop := fnExactTypesOfRow.holds Try.pinned (OpenSpec.ofChange fnExactTypesOfWrong)

/-- 'laws.FnExactCentraliserOf': WHATEVER THE INPUT: true; the input reads as it did. -/
def fnExactCentraliserOfSpec : ChangeSpec := { name := "fnExactCentraliserOf", fn := fun _ => fun
  | [d] => { results := [.lit (.bool true)], args := [d] }
  | _ => none }
def fnExactCentraliserOfRow : OpenClaim := { program := "ytjkojpmocgnkhaa", sum := "ca7cbbfd973bb368b350a5073b9c0680fc1008c132a48b101e6c863f86822ca1", func := "loop.example/g01200/laws.FnExactCentraliserOf", spec := "fnExactCentraliserOf", apart := false }
def FnExactCentraliserOfSaid : Prop := fnExactCentraliserOfRow.holds Try.pinned (OpenSpec.ofChange fnExactCentraliserOfSpec)

/-- ITS FALSE NEIGHBOUR: 'it returns false'. Refute it at one input. -/
def fnExactCentraliserOfWrong : ChangeSpec := { name := "fnExactCentraliserOf", fn := fun _ => fun
  | [d] => { results := [.lit (.bool false)], args := [d] }
  | _ => none }
def FnExactCentraliserOfWrongFalsely : Prop := fnExactCentraliserOfRow.holds Try.pinned (OpenSpec.ofChange fnExactCentraliserOfWrong)

/- THE SECOND FORM. 'bulk': how many values and letters a reading holds, each counted each time it is reached (what is shared counts as often as it is met; a slice's spare places count too). A statement '..UptoSaid' is the law's where the arguments, and the package variables that the reading takes, are together of bulk at most 1048576: NARROWER than '..Said'. Prove '..Said' where nothing that the law and all that it calls make is longer than what came in: it says more and counts as full. Else prove '..UptoSaid'. A law counts once. -/
mutual
def uptoBulk {H : Type} : DataW H → Nat
  | .lit (.string bytes) => bytes.length + 1
  | .lit _ => 1
  | .nil => 1
  | .ptr d => uptoBulk d + 1
  | .slice elems spare => uptoBulkAll elems + uptoBulkAll spare + 1
  | .agg parts => uptoBulkAll parts + 1
  | .iface _ d => uptoBulk d + 1
  | .map entries => uptoBulkEntries entries + 1
  | .held _ => 1
def uptoBulkAll {H : Type} : List (DataW H) → Nat
  | [] => 0
  | d :: r => uptoBulk d + uptoBulkAll r
def uptoBulkEntries {H : Type} : List (Lit × DataW H) → Nat
  | [] => 0
  | x :: r => uptoBulkEntry x + uptoBulkEntries r
def uptoBulkEntry {H : Type} : Lit × DataW H → Nat
  | (.string bytes, d) => bytes.length + uptoBulk d + 1
  | (_, d) => uptoBulk d + 1
 end
def uptoSmall : (H : Type) → List (DataW H) → Bool := fun _ ds => decide (uptoBulkAll ds ≤ 1048576)
def OpenSpec.upto (s : _root_.Go.ChangeSpec) : _root_.Go.OpenSpec := { _root_.Go.OpenSpec.ofChange s with cond := some uptoSmall }

/-- 'laws.FnExactConstants', WHERE WHAT IT READS IS OF BULK AT MOST 1048576: true; the input reads as it did. -/
def fnExactConstantsUptoRow : OpenClaim := { program := "ytjkojpmocgnkhaa", sum := "ca7cbbfd973bb368b350a5073b9c0680fc1008c132a48b101e6c863f86822ca1", func := "loop.example/g01200/laws.FnExactConstants", spec := "fnExactConstants", apart := false, narrowed := true }
def FnExactConstantsUptoSaid : Prop := fnExactConstantsUptoRow.holds Try.pinned (OpenSpec.upto fnExactConstantsSpec)

/-- 'laws.FnExactCountSubgroups', WHERE WHAT IT READS IS OF BULK AT MOST 1048576: true; the input reads as it did. -/
def fnExactCountSubgroupsUptoRow : OpenClaim := { program := "ytjkojpmocgnkhaa", sum := "ca7cbbfd973bb368b350a5073b9c0680fc1008c132a48b101e6c863f86822ca1", func := "loop.example/g01200/laws.FnExactCountSubgroups", spec := "fnExactCountSubgroups", apart := false, narrowed := true }
def FnExactCountSubgroupsUptoSaid : Prop := fnExactCountSubgroupsUptoRow.holds Try.pinned (OpenSpec.upto fnExactCountSubgroupsSpec)

/-- 'laws.FnExactIsPermutation', WHERE WHAT IT READS IS OF BULK AT MOST 1048576: true; the input reads as it did. -/
def fnExactIsPermutationUptoRow : OpenClaim := { program := "ytjkojpmocgnkhaa", sum := "ca7cbbfd973bb368b350a5073b9c0680fc1008c132a48b101e6c863f86822ca1", func := "loop.example/g01200/laws.FnExactIsPermutation", spec := "fnExactIsPermutation", apart := false, narrowed := true }
def FnExactIsPermutationUptoSaid : Prop := fnExactIsPermutationUptoRow.holds Try.pinned (OpenSpec.upto fnExactIsPermutationSpec)

/-- 'laws.FnExactIsType', WHERE WHAT IT READS IS OF BULK AT MOST 1048576: true; the input reads as it did. -/
def fnExactIsTypeUptoRow : OpenClaim := { program := "ytjkojpmocgnkhaa", sum := "ca7cbbfd973bb368b350a5073b9c0680fc1008c132a48b101e6c863f86822ca1", func := "loop.example/g01200/laws.FnExactIsType", spec := "fnExactIsType", apart := false, narrowed := true }
def FnExactIsTypeUptoSaid : Prop := fnExactIsTypeUptoRow.holds Try.pinned (OpenSpec.upto fnExactIsTypeSpec)

/-- 'laws.FnExactStarDessin', WHERE WHAT IT READS IS OF BULK AT MOST 1048576: true; the input reads as it did. -/
def fnExactStarDessinUptoRow : OpenClaim := { program := "ytjkojpmocgnkhaa", sum := "ca7cbbfd973bb368b350a5073b9c0680fc1008c132a48b101e6c863f86822ca1", func := "loop.example/g01200/laws.FnExactStarDessin", spec := "fnExactStarDessin", apart := false, narrowed := true }
def FnExactStarDessinUptoSaid : Prop := fnExactStarDessinUptoRow.holds Try.pinned (OpenSpec.upto fnExactStarDessinSpec)

/-- 'laws.FnExactChainDessin', WHERE WHAT IT READS IS OF BULK AT MOST 1048576: true; the input reads as it did. -/
def fnExactChainDessinUptoRow : OpenClaim := { program := "ytjkojpmocgnkhaa", sum := "ca7cbbfd973bb368b350a5073b9c0680fc1008c132a48b101e6c863f86822ca1", func := "loop.example/g01200/laws.FnExactChainDessin", spec := "fnExactChainDessin", apart := false, narrowed := true }
def FnExactChainDessinUptoSaid : Prop := fnExactChainDessinUptoRow.holds Try.pinned (OpenSpec.upto fnExactChainDessinSpec)

/-- 'laws.FnExactBandDessin', WHERE WHAT IT READS IS OF BULK AT MOST 1048576: true; the input reads as it did. -/
def fnExactBandDessinUptoRow : OpenClaim := { program := "ytjkojpmocgnkhaa", sum := "ca7cbbfd973bb368b350a5073b9c0680fc1008c132a48b101e6c863f86822ca1", func := "loop.example/g01200/laws.FnExactBandDessin", spec := "fnExactBandDessin", apart := false, narrowed := true }
def FnExactBandDessinUptoSaid : Prop := fnExactBandDessinUptoRow.holds Try.pinned (OpenSpec.upto fnExactBandDessinSpec)

/-- 'laws.FnExactBackPlaces', WHERE WHAT IT READS IS OF BULK AT MOST 1048576: true; the input reads as it did. -/
def fnExactBackPlacesUptoRow : OpenClaim := { program := "ytjkojpmocgnkhaa", sum := "ca7cbbfd973bb368b350a5073b9c0680fc1008c132a48b101e6c863f86822ca1", func := "loop.example/g01200/laws.FnExactBackPlaces", spec := "fnExactBackPlaces", apart := false, narrowed := true }
def FnExactBackPlacesUptoSaid : Prop := fnExactBackPlacesUptoRow.holds Try.pinned (OpenSpec.upto fnExactBackPlacesSpec)

/-- 'laws.FnExactThenPlaces', WHERE WHAT IT READS IS OF BULK AT MOST 1048576: true; the input reads as it did. -/
def fnExactThenPlacesUptoRow : OpenClaim := { program := "ytjkojpmocgnkhaa", sum := "ca7cbbfd973bb368b350a5073b9c0680fc1008c132a48b101e6c863f86822ca1", func := "loop.example/g01200/laws.FnExactThenPlaces", spec := "fnExactThenPlaces", apart := false, narrowed := true }
def FnExactThenPlacesUptoSaid : Prop := fnExactThenPlacesUptoRow.holds Try.pinned (OpenSpec.upto fnExactThenPlacesSpec)

/-- 'laws.FnExactIsDessin', WHERE WHAT IT READS IS OF BULK AT MOST 1048576: true; the input reads as it did. -/
def fnExactIsDessinUptoRow : OpenClaim := { program := "ytjkojpmocgnkhaa", sum := "ca7cbbfd973bb368b350a5073b9c0680fc1008c132a48b101e6c863f86822ca1", func := "loop.example/g01200/laws.FnExactIsDessin", spec := "fnExactIsDessin", apart := false, narrowed := true }
def FnExactIsDessinUptoSaid : Prop := fnExactIsDessinUptoRow.holds Try.pinned (OpenSpec.upto fnExactIsDessinSpec)

/-- 'laws.FnExactTypesOf', WHERE WHAT IT READS IS OF BULK AT MOST 1048576: true; the input reads as it did. -/
def fnExactTypesOfUptoRow : OpenClaim := { program := "ytjkojpmocgnkhaa", sum := "ca7cbbfd973bb368b350a5073b9c0680fc1008c132a48b101e6c863f86822ca1", func := "loop.example/g01200/laws.FnExactTypesOf", spec := "fnExactTypesOf", recurses := true, apart := false, narrowed := true }
def FnExactTypesOfUptoSaid : Prop := fnExactTypesOfUptoRow.holds Try.pinned (OpenSpec.upto fnExactTypesOfSpec)

/-- 'laws.FnExactCentraliserOf', WHERE WHAT IT READS IS OF BULK AT MOST 1048576: true; the input reads as it did. -/
def fnExactCentraliserOfUptoRow : OpenClaim := { program := "ytjkojpmocgnkhaa", sum := "ca7cbbfd973bb368b350a5073b9c0680fc1008c132a48b101e6c863f86822ca1", func := "loop.example/g01200/laws.FnExactCentraliserOf", spec := "fnExactCentraliserOf", apart := false, narrowed := true }
def FnExactCentraliserOfUptoSaid : Prop := fnExactCentraliserOfUptoRow.holds Try.pinned (OpenSpec.upto fnExactCentraliserOfSpec)

end Rows
end Go.Proofs.Ytjkojpmocgnkhaa
