/-
  No cell of these rows narrows 'for every input' (looked for: loops, veiled, ifaces, maps, wideKeys, modest, calm, conditions, laid).
  DERIVED. THE GIVEN ROWS OF THIS SEAT. 11 by the template 'for every input the law returns true; each argument reads behind the call as it read before'; 0 by the template 'total and deterministic' (their statements: YtakpeibmaejmeaaTotals.lean).
  GIVEN WITH THE SEED: the statements are not yours to turn. If you find one false, say at which input.
  Laid BY PROGRAM, IN A SANDBOX (cutbox-rows.mjs): the forced cells as the released guide's own fill.sh prints them over the translation 037ac3a2fac8b7b1… (all of the seat's roots in one cut). By AI agents, Wed Nov 11 2026. No macro, syntax, notation, axiom, sorry.
-/
import Derived.Test.YtakpeibmaejmeaaChecked
import GoSem.Claim
import GoSem.ClaimJoined
import GoSem.ClaimMapViews
import Derived.JoinedTies
import Derived.KernelRfl
namespace Go.Proofs.Ytakpeibmaejmeaa
/- THE CELL 'sum', in the pinned program and in every row, IS THE sha256 OF THE DUMP (.gsa) THAT YtakpeibmaejmeaaProg.lean LOADS. Nothing in Lean hashes anything: it is a label: what it is worth is what the hold of that sum in a sandbox is worth. -/
noncomputable def Try.pinned : Pinned := { name := "ytakpeibmaejmeaa", sum := "037ac3a2fac8b7b1ed22c9deedc48edc8ea679b33b9e6ab9c3a3704be19f2518", checked := Try.checked }
namespace Rows
def none {H : Type} : Left H := { results := [], args := [] }

/-- 'laws.FnExactTypeOf': WHATEVER THE INPUT: true; the input reads as it did. -/
def fnExactTypeOfSpec : ChangeSpec := { name := "fnExactTypeOf", fn := fun _ => fun
  | [d1, d2] => { results := [.lit (.bool true)], args := [d1, d2] }
  | _ => none }
def fnExactTypeOfRow : OpenClaim := { program := "ytakpeibmaejmeaa", sum := "037ac3a2fac8b7b1ed22c9deedc48edc8ea679b33b9e6ab9c3a3704be19f2518", func := "loop.example/g01200/laws.FnExactTypeOf", spec := "fnExactTypeOf", recurses := true, apart := false }
def FnExactTypeOfSaid : Prop := fnExactTypeOfRow.holds Try.pinned (OpenSpec.ofChange fnExactTypeOfSpec)

/-- ITS FALSE NEIGHBOUR: 'it returns false'. Refute it at one input. -/
def fnExactTypeOfWrong : ChangeSpec := { name := "fnExactTypeOf", fn := fun _ => fun
  | [d1, d2] => { results := [.lit (.bool false)], args := [d1, d2] }
  | _ => none }
def FnExactTypeOfWrongFalsely : Prop := fnExactTypeOfRow.holds Try.pinned (OpenSpec.ofChange fnExactTypeOfWrong)

/-- 'laws.FnExactOrderOf': WHATEVER THE INPUT: true; the input reads as it did. -/
def fnExactOrderOfSpec : ChangeSpec := { name := "fnExactOrderOf", fn := fun _ => fun
  | [d1, d2] => { results := [.lit (.bool true)], args := [d1, d2] }
  | _ => none }
def fnExactOrderOfRow : OpenClaim := { program := "ytakpeibmaejmeaa", sum := "037ac3a2fac8b7b1ed22c9deedc48edc8ea679b33b9e6ab9c3a3704be19f2518", func := "loop.example/g01200/laws.FnExactOrderOf", spec := "fnExactOrderOf", recurses := true, apart := false }
def FnExactOrderOfSaid : Prop := fnExactOrderOfRow.holds Try.pinned (OpenSpec.ofChange fnExactOrderOfSpec)

/-- ITS FALSE NEIGHBOUR: 'it returns false'. Refute it at one input. -/
def fnExactOrderOfWrong : ChangeSpec := { name := "fnExactOrderOf", fn := fun _ => fun
  | [d1, d2] => { results := [.lit (.bool false)], args := [d1, d2] }
  | _ => none }
def FnExactOrderOfWrongFalsely : Prop := fnExactOrderOfRow.holds Try.pinned (OpenSpec.ofChange fnExactOrderOfWrong)

/-- 'laws.FnExactEulerOf': WHATEVER THE INPUT: true; the input reads as it did. -/
def fnExactEulerOfSpec : ChangeSpec := { name := "fnExactEulerOf", fn := fun _ => fun
  | [d] => { results := [.lit (.bool true)], args := [d] }
  | _ => none }
def fnExactEulerOfRow : OpenClaim := { program := "ytakpeibmaejmeaa", sum := "037ac3a2fac8b7b1ed22c9deedc48edc8ea679b33b9e6ab9c3a3704be19f2518", func := "loop.example/g01200/laws.FnExactEulerOf", spec := "fnExactEulerOf", recurses := true, apart := false }
def FnExactEulerOfSaid : Prop := fnExactEulerOfRow.holds Try.pinned (OpenSpec.ofChange fnExactEulerOfSpec)

/-- ITS FALSE NEIGHBOUR: 'it returns false'. Refute it at one input. -/
def fnExactEulerOfWrong : ChangeSpec := { name := "fnExactEulerOf", fn := fun _ => fun
  | [d] => { results := [.lit (.bool false)], args := [d] }
  | _ => none }
def FnExactEulerOfWrongFalsely : Prop := fnExactEulerOfRow.holds Try.pinned (OpenSpec.ofChange fnExactEulerOfWrong)

/-- 'laws.FnExactGenusOf': WHATEVER THE INPUT: true; the input reads as it did. -/
def fnExactGenusOfSpec : ChangeSpec := { name := "fnExactGenusOf", fn := fun _ => fun
  | [d] => { results := [.lit (.bool true)], args := [d] }
  | _ => none }
def fnExactGenusOfRow : OpenClaim := { program := "ytakpeibmaejmeaa", sum := "037ac3a2fac8b7b1ed22c9deedc48edc8ea679b33b9e6ab9c3a3704be19f2518", func := "loop.example/g01200/laws.FnExactGenusOf", spec := "fnExactGenusOf", recurses := true, apart := false }
def FnExactGenusOfSaid : Prop := fnExactGenusOfRow.holds Try.pinned (OpenSpec.ofChange fnExactGenusOfSpec)

/-- ITS FALSE NEIGHBOUR: 'it returns false'. Refute it at one input. -/
def fnExactGenusOfWrong : ChangeSpec := { name := "fnExactGenusOf", fn := fun _ => fun
  | [d] => { results := [.lit (.bool false)], args := [d] }
  | _ => none }
def FnExactGenusOfWrongFalsely : Prop := fnExactGenusOfRow.holds Try.pinned (OpenSpec.ofChange fnExactGenusOfWrong)

/-- 'laws.FnExactPassportOf': WHATEVER THE INPUT: true; the input reads as it did. -/
def fnExactPassportOfSpec : ChangeSpec := { name := "fnExactPassportOf", fn := fun _ => fun
  | [d] => { results := [.lit (.bool true)], args := [d] }
  | _ => none }
def fnExactPassportOfRow : OpenClaim := { program := "ytakpeibmaejmeaa", sum := "037ac3a2fac8b7b1ed22c9deedc48edc8ea679b33b9e6ab9c3a3704be19f2518", func := "loop.example/g01200/laws.FnExactPassportOf", spec := "fnExactPassportOf", recurses := true, apart := false }
def FnExactPassportOfSaid : Prop := fnExactPassportOfRow.holds Try.pinned (OpenSpec.ofChange fnExactPassportOfSpec)

/-- ITS FALSE NEIGHBOUR: 'it returns false'. Refute it at one input. -/
def fnExactPassportOfWrong : ChangeSpec := { name := "fnExactPassportOf", fn := fun _ => fun
  | [d] => { results := [.lit (.bool false)], args := [d] }
  | _ => none }
def FnExactPassportOfWrongFalsely : Prop := fnExactPassportOfRow.holds Try.pinned (OpenSpec.ofChange fnExactPassportOfWrong)

/-- 'laws.FnExactQuotientBy': WHATEVER THE INPUT: true; the input reads as it did. -/
def fnExactQuotientBySpec : ChangeSpec := { name := "fnExactQuotientBy", fn := fun _ => fun
  | [d1, d2] => { results := [.lit (.bool true)], args := [d1, d2] }
  | _ => none }
def fnExactQuotientByRow : OpenClaim := { program := "ytakpeibmaejmeaa", sum := "037ac3a2fac8b7b1ed22c9deedc48edc8ea679b33b9e6ab9c3a3704be19f2518", func := "loop.example/g01200/laws.FnExactQuotientBy", spec := "fnExactQuotientBy", apart := false }
def FnExactQuotientBySaid : Prop := fnExactQuotientByRow.holds Try.pinned (OpenSpec.ofChange fnExactQuotientBySpec)

/-- ITS FALSE NEIGHBOUR: 'it returns false'. Refute it at one input. -/
def fnExactQuotientByWrong : ChangeSpec := { name := "fnExactQuotientBy", fn := fun _ => fun
  | [d1, d2] => { results := [.lit (.bool false)], args := [d1, d2] }
  | _ => none }
def FnExactQuotientByWrongFalsely : Prop := fnExactQuotientByRow.holds Try.pinned (OpenSpec.ofChange fnExactQuotientByWrong)

/-- 'laws.FnExactIncidencesOf': WHATEVER THE INPUT: true; the input reads as it did. -/
def fnExactIncidencesOfSpec : ChangeSpec := { name := "fnExactIncidencesOf", fn := fun _ => fun
  | [d] => { results := [.lit (.bool true)], args := [d] }
  | _ => none }
def fnExactIncidencesOfRow : OpenClaim := { program := "ytakpeibmaejmeaa", sum := "037ac3a2fac8b7b1ed22c9deedc48edc8ea679b33b9e6ab9c3a3704be19f2518", func := "loop.example/g01200/laws.FnExactIncidencesOf", spec := "fnExactIncidencesOf", apart := false }
def FnExactIncidencesOfSaid : Prop := fnExactIncidencesOfRow.holds Try.pinned (OpenSpec.ofChange fnExactIncidencesOfSpec)

/-- ITS FALSE NEIGHBOUR: 'it returns false'. Refute it at one input. -/
def fnExactIncidencesOfWrong : ChangeSpec := { name := "fnExactIncidencesOf", fn := fun _ => fun
  | [d] => { results := [.lit (.bool false)], args := [d] }
  | _ => none }
def FnExactIncidencesOfWrongFalsely : Prop := fnExactIncidencesOfRow.holds Try.pinned (OpenSpec.ofChange fnExactIncidencesOfWrong)

/-- 'laws.FnExactIsRegularDessin': WHATEVER THE INPUT: true; the input reads as it did. -/
def fnExactIsRegularDessinSpec : ChangeSpec := { name := "fnExactIsRegularDessin", fn := fun _ => fun
  | [d] => { results := [.lit (.bool true)], args := [d] }
  | _ => none }
def fnExactIsRegularDessinRow : OpenClaim := { program := "ytakpeibmaejmeaa", sum := "037ac3a2fac8b7b1ed22c9deedc48edc8ea679b33b9e6ab9c3a3704be19f2518", func := "loop.example/g01200/laws.FnExactIsRegularDessin", spec := "fnExactIsRegularDessin", apart := false }
def FnExactIsRegularDessinSaid : Prop := fnExactIsRegularDessinRow.holds Try.pinned (OpenSpec.ofChange fnExactIsRegularDessinSpec)

/-- ITS FALSE NEIGHBOUR: 'it returns false'. Refute it at one input. -/
def fnExactIsRegularDessinWrong : ChangeSpec := { name := "fnExactIsRegularDessin", fn := fun _ => fun
  | [d] => { results := [.lit (.bool false)], args := [d] }
  | _ => none }
def FnExactIsRegularDessinWrongFalsely : Prop := fnExactIsRegularDessinRow.holds Try.pinned (OpenSpec.ofChange fnExactIsRegularDessinWrong)

/-- 'laws.FnExactMorphismsOf': WHATEVER THE INPUT: true; the input reads as it did. -/
def fnExactMorphismsOfSpec : ChangeSpec := { name := "fnExactMorphismsOf", fn := fun _ => fun
  | [d1, d2] => { results := [.lit (.bool true)], args := [d1, d2] }
  | _ => none }
def fnExactMorphismsOfRow : OpenClaim := { program := "ytakpeibmaejmeaa", sum := "037ac3a2fac8b7b1ed22c9deedc48edc8ea679b33b9e6ab9c3a3704be19f2518", func := "loop.example/g01200/laws.FnExactMorphismsOf", spec := "fnExactMorphismsOf", apart := false }
def FnExactMorphismsOfSaid : Prop := fnExactMorphismsOfRow.holds Try.pinned (OpenSpec.ofChange fnExactMorphismsOfSpec)

/-- ITS FALSE NEIGHBOUR: 'it returns false'. Refute it at one input. -/
def fnExactMorphismsOfWrong : ChangeSpec := { name := "fnExactMorphismsOf", fn := fun _ => fun
  | [d1, d2] => { results := [.lit (.bool false)], args := [d1, d2] }
  | _ => none }
def FnExactMorphismsOfWrongFalsely : Prop := fnExactMorphismsOfRow.holds Try.pinned (OpenSpec.ofChange fnExactMorphismsOfWrong)

/-- 'laws.FnExactAutomorphismsOf': WHATEVER THE INPUT: true; the input reads as it did. -/
def fnExactAutomorphismsOfSpec : ChangeSpec := { name := "fnExactAutomorphismsOf", fn := fun _ => fun
  | [d] => { results := [.lit (.bool true)], args := [d] }
  | _ => none }
def fnExactAutomorphismsOfRow : OpenClaim := { program := "ytakpeibmaejmeaa", sum := "037ac3a2fac8b7b1ed22c9deedc48edc8ea679b33b9e6ab9c3a3704be19f2518", func := "loop.example/g01200/laws.FnExactAutomorphismsOf", spec := "fnExactAutomorphismsOf", apart := false }
def FnExactAutomorphismsOfSaid : Prop := fnExactAutomorphismsOfRow.holds Try.pinned (OpenSpec.ofChange fnExactAutomorphismsOfSpec)

/-- ITS FALSE NEIGHBOUR: 'it returns false'. Refute it at one input. -/
def fnExactAutomorphismsOfWrong : ChangeSpec := { name := "fnExactAutomorphismsOf", fn := fun _ => fun
  | [d] => { results := [.lit (.bool false)], args := [d] }
  | _ => none }
def FnExactAutomorphismsOfWrongFalsely : Prop := fnExactAutomorphismsOfRow.holds Try.pinned (OpenSpec.ofChange fnExactAutomorphismsOfWrong)

/-- 'laws.FnExactIsomorphismsOf': WHATEVER THE INPUT: true; the input reads as it did. -/
def fnExactIsomorphismsOfSpec : ChangeSpec := { name := "fnExactIsomorphismsOf", fn := fun _ => fun
  | [d1, d2] => { results := [.lit (.bool true)], args := [d1, d2] }
  | _ => none }
def fnExactIsomorphismsOfRow : OpenClaim := { program := "ytakpeibmaejmeaa", sum := "037ac3a2fac8b7b1ed22c9deedc48edc8ea679b33b9e6ab9c3a3704be19f2518", func := "loop.example/g01200/laws.FnExactIsomorphismsOf", spec := "fnExactIsomorphismsOf", apart := false }
def FnExactIsomorphismsOfSaid : Prop := fnExactIsomorphismsOfRow.holds Try.pinned (OpenSpec.ofChange fnExactIsomorphismsOfSpec)

/-- ITS FALSE NEIGHBOUR: 'it returns false'. Refute it at one input. -/
def fnExactIsomorphismsOfWrong : ChangeSpec := { name := "fnExactIsomorphismsOf", fn := fun _ => fun
  | [d1, d2] => { results := [.lit (.bool false)], args := [d1, d2] }
  | _ => none }
def FnExactIsomorphismsOfWrongFalsely : Prop := fnExactIsomorphismsOfRow.holds Try.pinned (OpenSpec.ofChange fnExactIsomorphismsOfWrong)

/- THE SECOND FORM. 'bulk': how many values and letters a reading holds, each counted each time it is reached (what is shared counts as often as it is met; a slice's spare places count too). A statement '..UptoSaid' is the law's where the arguments, and the package variables that the reading takes, are together of bulk at most 1048576: NARROWER than '..Said'. Prove '..Said' where nothing that the law and all that it calls make is longer than what came in: it says more and counts as full. Else prove '..UptoSaid'. A law counts once. -/
mutual
def uptoBulk {H : Type} : DataW H → Nat
  | .lit (.string bytes) => bytes.length + 1
  | .lit _ => 1
  | .nil => 1
  | .ptr d => uptoBulk d + 1
  | .slice elems spare => uptoBulkAll elems + uptoBulkAll spare + 1
  | .agg parts => uptoBulkAll parts + 1
  | .iface _ d => uptoBulk d + 1
  | .map entries => uptoBulkEntries entries + 1
  | .held _ => 1
def uptoBulkAll {H : Type} : List (DataW H) → Nat
  | [] => 0
  | d :: r => uptoBulk d + uptoBulkAll r
def uptoBulkEntries {H : Type} : List (Lit × DataW H) → Nat
  | [] => 0
  | x :: r => uptoBulkEntry x + uptoBulkEntries r
def uptoBulkEntry {H : Type} : Lit × DataW H → Nat
  | (.string bytes, d) => bytes.length + uptoBulk d + 1
  | (_, d) => uptoBulk d + 1
 end
def uptoSmall : (H : Type) → List (DataW H) → Bool := fun _ ds => decide (uptoBulkAll ds ≤ 1048576)
def OpenSpec.upto (s : _root_.Go.ChangeSpec) : _root_.Go.OpenSpec := { _root_.Go.OpenSpec.ofChange s with cond := some uptoSmall }

/-- 'laws.FnExactTypeOf', WHERE WHAT IT READS IS OF BULK AT MOST 1048576: true; the input reads as it did. -/
def fnExactTypeOfUptoRow : OpenClaim := { program := "ytakpeibmaejmeaa", sum := "037ac3a2fac8b7b1ed22c9deedc48edc8ea679b33b9e6ab9c3a3704be19f2518", func := "loop.example/g01200/laws.FnExactTypeOf", spec := "fnExactTypeOf", recurses := true, apart := false, narrowed := true }
def FnExactTypeOfUptoSaid : Prop := fnExactTypeOfUptoRow.holds Try.pinned (OpenSpec.upto fnExactTypeOfSpec)

/-- 'laws.FnExactOrderOf', WHERE WHAT IT READS IS OF BULK AT MOST 1048576: true; the input reads as it did. -/
def fnExactOrderOfUptoRow : OpenClaim := { program := "ytakpeibmaejmeaa", sum := "037ac3a2fac8b7b1ed22c9deedc48edc8ea679b33b9e6ab9c3a3704be19f2518", func := "loop.example/g01200/laws.FnExactOrderOf", spec := "fnExactOrderOf", recurses := true, apart := false, narrowed := true }
def FnExactOrderOfUptoSaid : Prop := fnExactOrderOfUptoRow.holds Try.pinned (OpenSpec.upto fnExactOrderOfSpec)

/-- 'laws.FnExactEulerOf', WHERE WHAT IT READS IS OF BULK AT MOST 1048576: true; the input reads as it did. -/
def fnExactEulerOfUptoRow : OpenClaim := { program := "ytakpeibmaejmeaa", sum := "037ac3a2fac8b7b1ed22c9deedc48edc8ea679b33b9e6ab9c3a3704be19f2518", func := "loop.example/g01200/laws.FnExactEulerOf", spec := "fnExactEulerOf", recurses := true, apart := false, narrowed := true }
def FnExactEulerOfUptoSaid : Prop := fnExactEulerOfUptoRow.holds Try.pinned (OpenSpec.upto fnExactEulerOfSpec)

/-- 'laws.FnExactGenusOf', WHERE WHAT IT READS IS OF BULK AT MOST 1048576: true; the input reads as it did. -/
def fnExactGenusOfUptoRow : OpenClaim := { program := "ytakpeibmaejmeaa", sum := "037ac3a2fac8b7b1ed22c9deedc48edc8ea679b33b9e6ab9c3a3704be19f2518", func := "loop.example/g01200/laws.FnExactGenusOf", spec := "fnExactGenusOf", recurses := true, apart := false, narrowed := true }
def FnExactGenusOfUptoSaid : Prop := fnExactGenusOfUptoRow.holds Try.pinned (OpenSpec.upto fnExactGenusOfSpec)

/-- 'laws.FnExactPassportOf', WHERE WHAT IT READS IS OF BULK AT MOST 1048576: true; the input reads as it did. -/
def fnExactPassportOfUptoRow : OpenClaim := { program := "ytakpeibmaejmeaa", sum := "037ac3a2fac8b7b1ed22c9deedc48edc8ea679b33b9e6ab9c3a3704be19f2518", func := "loop.example/g01200/laws.FnExactPassportOf", spec := "fnExactPassportOf", recurses := true, apart := false, narrowed := true }
def FnExactPassportOfUptoSaid : Prop := fnExactPassportOfUptoRow.holds Try.pinned (OpenSpec.upto fnExactPassportOfSpec)

/-- 'laws.FnExactQuotientBy', WHERE WHAT IT READS IS OF BULK AT MOST 1048576: true; the input reads as it did. -/
def fnExactQuotientByUptoRow : OpenClaim := { program := "ytakpeibmaejmeaa", sum := "037ac3a2fac8b7b1ed22c9deedc48edc8ea679b33b9e6ab9c3a3704be19f2518", func := "loop.example/g01200/laws.FnExactQuotientBy", spec := "fnExactQuotientBy", apart := false, narrowed := true }
def FnExactQuotientByUptoSaid : Prop := fnExactQuotientByUptoRow.holds Try.pinned (OpenSpec.upto fnExactQuotientBySpec)

/-- 'laws.FnExactIncidencesOf', WHERE WHAT IT READS IS OF BULK AT MOST 1048576: true; the input reads as it did. -/
def fnExactIncidencesOfUptoRow : OpenClaim := { program := "ytakpeibmaejmeaa", sum := "037ac3a2fac8b7b1ed22c9deedc48edc8ea679b33b9e6ab9c3a3704be19f2518", func := "loop.example/g01200/laws.FnExactIncidencesOf", spec := "fnExactIncidencesOf", apart := false, narrowed := true }
def FnExactIncidencesOfUptoSaid : Prop := fnExactIncidencesOfUptoRow.holds Try.pinned (OpenSpec.upto fnExactIncidencesOfSpec)

/-- 'laws.FnExactIsRegularDessin', WHERE WHAT IT READS IS OF BULK AT MOST 1048576: true; the input reads as it did. -/
def fnExactIsRegularDessinUptoRow : OpenClaim := { program := "ytakpeibmaejmeaa", sum := "037ac3a2fac8b7b1ed22c9deedc48edc8ea679b33b9e6ab9c3a3704be19f2518", func := "loop.example/g01200/laws.FnExactIsRegularDessin", spec := "fnExactIsRegularDessin", apart := false, narrowed := true }
def FnExactIsRegularDessinUptoSaid : Prop := fnExactIsRegularDessinUptoRow.holds Try.pinned (OpenSpec.upto fnExactIsRegularDessinSpec)

/-- 'laws.FnExactMorphismsOf', WHERE WHAT IT READS IS OF BULK AT MOST 1048576: true; the input reads as it did. -/
def fnExactMorphismsOfUptoRow : OpenClaim := { program := "ytakpeibmaejmeaa", sum := "037ac3a2fac8b7b1ed22c9deedc48edc8ea679b33b9e6ab9c3a3704be19f2518", func := "loop.example/g01200/laws.FnExactMorphismsOf", spec := "fnExactMorphismsOf", apart := false, narrowed := true }
def FnExactMorphismsOfUptoSaid : Prop := fnExactMorphismsOfUptoRow.holds Try.pinned (OpenSpec.upto fnExactMorphismsOfSpec)

/-- 'laws.FnExactAutomorphismsOf', WHERE WHAT IT READS IS OF BULK AT MOST 1048576: true; the input reads as it did. -/
def fnExactAutomorphismsOfUptoRow : OpenClaim := { program := "ytakpeibmaejmeaa", sum := "037ac3a2fac8b7b1ed22c9deedc48edc8ea679b33b9e6ab9c3a3704be19f2518", func := "loop.example/g01200/laws.FnExactAutomorphismsOf", spec := "fnExactAutomorphismsOf", apart := false, narrowed := true }
def FnExactAutomorphismsOfUptoSaid : Prop := fnExactAutomorphismsOfUptoRow.holds Try.pinned (OpenSpec.upto fnExactAutomorphismsOfSpec)

/-- 'laws.FnExactIsomorphismsOf', WHERE WHAT IT READS IS OF BULK AT MOST 1048576: true; the input reads as it did. -/
def fnExactIsomorphismsOfUptoRow : OpenClaim := { program := "ytakpeibmaejmeaa", sum := "037ac3a2fac8b7b1ed22c9deedc48edc8ea679b33b9e6ab9c3a3704be19f2518", func := "loop.example/g01200/laws.FnExactIsomorphismsOf", spec := "fnExactIsomorphismsOf", apart := false, narrowed := true }
def FnExactIsomorphismsOfUptoSaid : Prop := fnExactIsomorphismsOfUptoRow.holds Try.pinned (OpenSpec.upto fnExactIsomorphismsOfSpec)

end Rows
end Go.Proofs.Ytakpeibmaejmeaa
