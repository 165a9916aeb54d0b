/-
  No cell of these rows narrows 'for every input' (looked for: loops, veiled, ifaces, maps, wideKeys, modest, calm, conditions, laid).
  DERIVED. THE GIVEN ROWS OF THIS SEAT. 15 by the template 'for every input the law returns true; each argument reads behind the call as it read before'; 0 by the template 'total and deterministic' (their statements: YtgdcdapkmiekeaaTotals.lean).
  GIVEN WITH THE SEED: the statements are not yours to turn. If you find one false, say at which input.
  Laid BY PROGRAM, IN A SANDBOX (cutbox-rows.mjs): the forced cells as the released guide's own fill.sh prints them over the translation a663564d563d6981… (all of the seat's roots in one cut). By AI agents, Wed Nov 11 2026. No macro, syntax, notation, axiom, sorry.
-/
import Derived.Test.YtgdcdapkmiekeaaChecked
import GoSem.Claim
import GoSem.ClaimJoined
import GoSem.ClaimMapViews
import Derived.JoinedTies
import Derived.KernelRfl
namespace Go.Proofs.Ytgdcdapkmiekeaa
/- THE CELL 'sum', in the pinned program and in every row, IS THE sha256 OF THE DUMP (.gsa) THAT YtgdcdapkmiekeaaProg.lean LOADS. Nothing in Lean hashes anything: it is a label: what it is worth is what the hold of that sum in a sandbox is worth. -/
noncomputable def Try.pinned : Pinned := { name := "ytgdcdapkmiekeaa", sum := "a663564d563d6981c2ece95c33f4995a81592cfdccef2fc4bf4f2e8481c0ed1e", checked := Try.checked }
namespace Rows
def none {H : Type} : Left H := { results := [], args := [] }

/-- 'laws.FnExactSignOf': WHATEVER THE INPUT: true; the input reads as it did. -/
def fnExactSignOfSpec : ChangeSpec := { name := "fnExactSignOf", fn := fun _ => fun
  | [d1, d2] => { results := [.lit (.bool true)], args := [d1, d2] }
  | _ => none }
def fnExactSignOfRow : OpenClaim := { program := "ytgdcdapkmiekeaa", sum := "a663564d563d6981c2ece95c33f4995a81592cfdccef2fc4bf4f2e8481c0ed1e", func := "loop.example/g01200/laws.FnExactSignOf", spec := "fnExactSignOf", apart := false }
def FnExactSignOfSaid : Prop := fnExactSignOfRow.holds Try.pinned (OpenSpec.ofChange fnExactSignOfSpec)

/-- ITS FALSE NEIGHBOUR: 'it returns false'. Refute it at one input. -/
def fnExactSignOfWrong : ChangeSpec := { name := "fnExactSignOf", fn := fun _ => fun
  | [d1, d2] => { results := [.lit (.bool false)], args := [d1, d2] }
  | _ => none }
def FnExactSignOfWrongFalsely : Prop := fnExactSignOfRow.holds Try.pinned (OpenSpec.ofChange fnExactSignOfWrong)

/-- 'laws.FnExactIsPassport': WHATEVER THE INPUT: true; the input reads as it did. -/
def fnExactIsPassportSpec : ChangeSpec := { name := "fnExactIsPassport", fn := fun _ => fun
  | [d] => { results := [.lit (.bool true)], args := [d] }
  | _ => none }
def fnExactIsPassportRow : OpenClaim := { program := "ytgdcdapkmiekeaa", sum := "a663564d563d6981c2ece95c33f4995a81592cfdccef2fc4bf4f2e8481c0ed1e", func := "loop.example/g01200/laws.FnExactIsPassport", spec := "fnExactIsPassport", apart := false }
def FnExactIsPassportSaid : Prop := fnExactIsPassportRow.holds Try.pinned (OpenSpec.ofChange fnExactIsPassportSpec)

/-- ITS FALSE NEIGHBOUR: 'it returns false'. Refute it at one input. -/
def fnExactIsPassportWrong : ChangeSpec := { name := "fnExactIsPassport", fn := fun _ => fun
  | [d] => { results := [.lit (.bool false)], args := [d] }
  | _ => none }
def FnExactIsPassportWrongFalsely : Prop := fnExactIsPassportRow.holds Try.pinned (OpenSpec.ofChange fnExactIsPassportWrong)

/-- 'laws.FnExactPlacesOfCycles': WHATEVER THE INPUT: true; the input reads as it did. -/
def fnExactPlacesOfCyclesSpec : ChangeSpec := { name := "fnExactPlacesOfCycles", fn := fun _ => fun
  | [d1, d2] => { results := [.lit (.bool true)], args := [d1, d2] }
  | _ => none }
def fnExactPlacesOfCyclesRow : OpenClaim := { program := "ytgdcdapkmiekeaa", sum := "a663564d563d6981c2ece95c33f4995a81592cfdccef2fc4bf4f2e8481c0ed1e", func := "loop.example/g01200/laws.FnExactPlacesOfCycles", spec := "fnExactPlacesOfCycles", apart := false }
def FnExactPlacesOfCyclesSaid : Prop := fnExactPlacesOfCyclesRow.holds Try.pinned (OpenSpec.ofChange fnExactPlacesOfCyclesSpec)

/-- ITS FALSE NEIGHBOUR: 'it returns false'. Refute it at one input. -/
def fnExactPlacesOfCyclesWrong : ChangeSpec := { name := "fnExactPlacesOfCycles", fn := fun _ => fun
  | [d1, d2] => { results := [.lit (.bool false)], args := [d1, d2] }
  | _ => none }
def FnExactPlacesOfCyclesWrongFalsely : Prop := fnExactPlacesOfCyclesRow.holds Try.pinned (OpenSpec.ofChange fnExactPlacesOfCyclesWrong)

/-- 'laws.FnExactRenameDessin': WHATEVER THE INPUT: true; the input reads as it did. -/
def fnExactRenameDessinSpec : ChangeSpec := { name := "fnExactRenameDessin", fn := fun _ => fun
  | [d1, d2] => { results := [.lit (.bool true)], args := [d1, d2] }
  | _ => none }
def fnExactRenameDessinRow : OpenClaim := { program := "ytgdcdapkmiekeaa", sum := "a663564d563d6981c2ece95c33f4995a81592cfdccef2fc4bf4f2e8481c0ed1e", func := "loop.example/g01200/laws.FnExactRenameDessin", spec := "fnExactRenameDessin", apart := false }
def FnExactRenameDessinSaid : Prop := fnExactRenameDessinRow.holds Try.pinned (OpenSpec.ofChange fnExactRenameDessinSpec)

/-- ITS FALSE NEIGHBOUR: 'it returns false'. Refute it at one input. -/
def fnExactRenameDessinWrong : ChangeSpec := { name := "fnExactRenameDessin", fn := fun _ => fun
  | [d1, d2] => { results := [.lit (.bool false)], args := [d1, d2] }
  | _ => none }
def FnExactRenameDessinWrongFalsely : Prop := fnExactRenameDessinRow.holds Try.pinned (OpenSpec.ofChange fnExactRenameDessinWrong)

/-- 'laws.FnExactFaceOf': WHATEVER THE INPUT: true; the input reads as it did. -/
def fnExactFaceOfSpec : ChangeSpec := { name := "fnExactFaceOf", fn := fun _ => fun
  | [d] => { results := [.lit (.bool true)], args := [d] }
  | _ => none }
def fnExactFaceOfRow : OpenClaim := { program := "ytgdcdapkmiekeaa", sum := "a663564d563d6981c2ece95c33f4995a81592cfdccef2fc4bf4f2e8481c0ed1e", func := "loop.example/g01200/laws.FnExactFaceOf", spec := "fnExactFaceOf", apart := false }
def FnExactFaceOfSaid : Prop := fnExactFaceOfRow.holds Try.pinned (OpenSpec.ofChange fnExactFaceOfSpec)

/-- ITS FALSE NEIGHBOUR: 'it returns false'. Refute it at one input. -/
def fnExactFaceOfWrong : ChangeSpec := { name := "fnExactFaceOf", fn := fun _ => fun
  | [d] => { results := [.lit (.bool false)], args := [d] }
  | _ => none }
def FnExactFaceOfWrongFalsely : Prop := fnExactFaceOfRow.holds Try.pinned (OpenSpec.ofChange fnExactFaceOfWrong)

/-- 'laws.FnExactCyclesOf': WHATEVER THE INPUT: true; the input reads as it did. -/
def fnExactCyclesOfSpec : ChangeSpec := { name := "fnExactCyclesOf", fn := fun _ => fun
  | [d1, d2] => { results := [.lit (.bool true)], args := [d1, d2] }
  | _ => none }
def fnExactCyclesOfRow : OpenClaim := { program := "ytgdcdapkmiekeaa", sum := "a663564d563d6981c2ece95c33f4995a81592cfdccef2fc4bf4f2e8481c0ed1e", func := "loop.example/g01200/laws.FnExactCyclesOf", spec := "fnExactCyclesOf", apart := false }
def FnExactCyclesOfSaid : Prop := fnExactCyclesOfRow.holds Try.pinned (OpenSpec.ofChange fnExactCyclesOfSpec)

/-- ITS FALSE NEIGHBOUR: 'it returns false'. Refute it at one input. -/
def fnExactCyclesOfWrong : ChangeSpec := { name := "fnExactCyclesOf", fn := fun _ => fun
  | [d1, d2] => { results := [.lit (.bool false)], args := [d1, d2] }
  | _ => none }
def FnExactCyclesOfWrongFalsely : Prop := fnExactCyclesOfRow.holds Try.pinned (OpenSpec.ofChange fnExactCyclesOfWrong)

/-- 'laws.FnExactIsEven': WHATEVER THE INPUT: true; the input reads as it did. -/
def fnExactIsEvenSpec : ChangeSpec := { name := "fnExactIsEven", fn := fun _ => fun
  | [d] => { results := [.lit (.bool true)], args := [d] }
  | _ => none }
def fnExactIsEvenRow : OpenClaim := { program := "ytgdcdapkmiekeaa", sum := "a663564d563d6981c2ece95c33f4995a81592cfdccef2fc4bf4f2e8481c0ed1e", func := "loop.example/g01200/laws.FnExactIsEven", spec := "fnExactIsEven", apart := false }
def FnExactIsEvenSaid : Prop := fnExactIsEvenRow.holds Try.pinned (OpenSpec.ofChange fnExactIsEvenSpec)

/-- ITS FALSE NEIGHBOUR: 'it returns false'. Refute it at one input. -/
def fnExactIsEvenWrong : ChangeSpec := { name := "fnExactIsEven", fn := fun _ => fun
  | [d] => { results := [.lit (.bool false)], args := [d] }
  | _ => none }
def FnExactIsEvenWrongFalsely : Prop := fnExactIsEvenRow.holds Try.pinned (OpenSpec.ofChange fnExactIsEvenWrong)

/-- 'laws.FnExactNamingFrom': WHATEVER THE INPUT: true; the input reads as it did. -/
def fnExactNamingFromSpec : ChangeSpec := { name := "fnExactNamingFrom", fn := fun _ => fun
  | [d1, d2] => { results := [.lit (.bool true)], args := [d1, d2] }
  | _ => none }
def fnExactNamingFromRow : OpenClaim := { program := "ytgdcdapkmiekeaa", sum := "a663564d563d6981c2ece95c33f4995a81592cfdccef2fc4bf4f2e8481c0ed1e", func := "loop.example/g01200/laws.FnExactNamingFrom", spec := "fnExactNamingFrom", apart := false }
def FnExactNamingFromSaid : Prop := fnExactNamingFromRow.holds Try.pinned (OpenSpec.ofChange fnExactNamingFromSpec)

/-- ITS FALSE NEIGHBOUR: 'it returns false'. Refute it at one input. -/
def fnExactNamingFromWrong : ChangeSpec := { name := "fnExactNamingFrom", fn := fun _ => fun
  | [d1, d2] => { results := [.lit (.bool false)], args := [d1, d2] }
  | _ => none }
def FnExactNamingFromWrongFalsely : Prop := fnExactNamingFromRow.holds Try.pinned (OpenSpec.ofChange fnExactNamingFromWrong)

/-- 'laws.FnExactCanonicalDessin': WHATEVER THE INPUT: true; the input reads as it did. -/
def fnExactCanonicalDessinSpec : ChangeSpec := { name := "fnExactCanonicalDessin", fn := fun _ => fun
  | [d] => { results := [.lit (.bool true)], args := [d] }
  | _ => none }
def fnExactCanonicalDessinRow : OpenClaim := { program := "ytgdcdapkmiekeaa", sum := "a663564d563d6981c2ece95c33f4995a81592cfdccef2fc4bf4f2e8481c0ed1e", func := "loop.example/g01200/laws.FnExactCanonicalDessin", spec := "fnExactCanonicalDessin", inPlace := ["internal/bytealg.Compare"], apart := false }
def FnExactCanonicalDessinSaid : Prop := fnExactCanonicalDessinRow.holds Try.pinned (OpenSpec.ofChange fnExactCanonicalDessinSpec)

/-- ITS FALSE NEIGHBOUR: 'it returns false'. Refute it at one input. -/
def fnExactCanonicalDessinWrong : ChangeSpec := { name := "fnExactCanonicalDessin", fn := fun _ => fun
  | [d] => { results := [.lit (.bool false)], args := [d] }
  | _ => none }
def FnExactCanonicalDessinWrongFalsely : Prop := fnExactCanonicalDessinRow.holds Try.pinned (OpenSpec.ofChange fnExactCanonicalDessinWrong)

/-- 'laws.FnExactQuotientBy': WHATEVER THE INPUT: true; the input reads as it did. -/
def fnExactQuotientBySpec : ChangeSpec := { name := "fnExactQuotientBy", fn := fun _ => fun
  | [d1, d2] => { results := [.lit (.bool true)], args := [d1, d2] }
  | _ => none }
def fnExactQuotientByRow : OpenClaim := { program := "ytgdcdapkmiekeaa", sum := "a663564d563d6981c2ece95c33f4995a81592cfdccef2fc4bf4f2e8481c0ed1e", func := "loop.example/g01200/laws.FnExactQuotientBy", spec := "fnExactQuotientBy", apart := false }
def FnExactQuotientBySaid : Prop := fnExactQuotientByRow.holds Try.pinned (OpenSpec.ofChange fnExactQuotientBySpec)

/-- ITS FALSE NEIGHBOUR: 'it returns false'. Refute it at one input. -/
def fnExactQuotientByWrong : ChangeSpec := { name := "fnExactQuotientBy", fn := fun _ => fun
  | [d1, d2] => { results := [.lit (.bool false)], args := [d1, d2] }
  | _ => none }
def FnExactQuotientByWrongFalsely : Prop := fnExactQuotientByRow.holds Try.pinned (OpenSpec.ofChange fnExactQuotientByWrong)

/-- 'laws.FnExactIncidencesOf': WHATEVER THE INPUT: true; the input reads as it did. -/
def fnExactIncidencesOfSpec : ChangeSpec := { name := "fnExactIncidencesOf", fn := fun _ => fun
  | [d] => { results := [.lit (.bool true)], args := [d] }
  | _ => none }
def fnExactIncidencesOfRow : OpenClaim := { program := "ytgdcdapkmiekeaa", sum := "a663564d563d6981c2ece95c33f4995a81592cfdccef2fc4bf4f2e8481c0ed1e", func := "loop.example/g01200/laws.FnExactIncidencesOf", spec := "fnExactIncidencesOf", apart := false }
def FnExactIncidencesOfSaid : Prop := fnExactIncidencesOfRow.holds Try.pinned (OpenSpec.ofChange fnExactIncidencesOfSpec)

/-- ITS FALSE NEIGHBOUR: 'it returns false'. Refute it at one input. -/
def fnExactIncidencesOfWrong : ChangeSpec := { name := "fnExactIncidencesOf", fn := fun _ => fun
  | [d] => { results := [.lit (.bool false)], args := [d] }
  | _ => none }
def FnExactIncidencesOfWrongFalsely : Prop := fnExactIncidencesOfRow.holds Try.pinned (OpenSpec.ofChange fnExactIncidencesOfWrong)

/-- 'laws.FnExactIsRegularDessin': WHATEVER THE INPUT: true; the input reads as it did. -/
def fnExactIsRegularDessinSpec : ChangeSpec := { name := "fnExactIsRegularDessin", fn := fun _ => fun
  | [d] => { results := [.lit (.bool true)], args := [d] }
  | _ => none }
def fnExactIsRegularDessinRow : OpenClaim := { program := "ytgdcdapkmiekeaa", sum := "a663564d563d6981c2ece95c33f4995a81592cfdccef2fc4bf4f2e8481c0ed1e", func := "loop.example/g01200/laws.FnExactIsRegularDessin", spec := "fnExactIsRegularDessin", apart := false }
def FnExactIsRegularDessinSaid : Prop := fnExactIsRegularDessinRow.holds Try.pinned (OpenSpec.ofChange fnExactIsRegularDessinSpec)

/-- ITS FALSE NEIGHBOUR: 'it returns false'. Refute it at one input. -/
def fnExactIsRegularDessinWrong : ChangeSpec := { name := "fnExactIsRegularDessin", fn := fun _ => fun
  | [d] => { results := [.lit (.bool false)], args := [d] }
  | _ => none }
def FnExactIsRegularDessinWrongFalsely : Prop := fnExactIsRegularDessinRow.holds Try.pinned (OpenSpec.ofChange fnExactIsRegularDessinWrong)

/-- 'laws.FnExactMorphismsOf': WHATEVER THE INPUT: true; the input reads as it did. -/
def fnExactMorphismsOfSpec : ChangeSpec := { name := "fnExactMorphismsOf", fn := fun _ => fun
  | [d1, d2] => { results := [.lit (.bool true)], args := [d1, d2] }
  | _ => none }
def fnExactMorphismsOfRow : OpenClaim := { program := "ytgdcdapkmiekeaa", sum := "a663564d563d6981c2ece95c33f4995a81592cfdccef2fc4bf4f2e8481c0ed1e", func := "loop.example/g01200/laws.FnExactMorphismsOf", spec := "fnExactMorphismsOf", apart := false }
def FnExactMorphismsOfSaid : Prop := fnExactMorphismsOfRow.holds Try.pinned (OpenSpec.ofChange fnExactMorphismsOfSpec)

/-- ITS FALSE NEIGHBOUR: 'it returns false'. Refute it at one input. -/
def fnExactMorphismsOfWrong : ChangeSpec := { name := "fnExactMorphismsOf", fn := fun _ => fun
  | [d1, d2] => { results := [.lit (.bool false)], args := [d1, d2] }
  | _ => none }
def FnExactMorphismsOfWrongFalsely : Prop := fnExactMorphismsOfRow.holds Try.pinned (OpenSpec.ofChange fnExactMorphismsOfWrong)

/-- 'laws.FnExactAutomorphismsOf': WHATEVER THE INPUT: true; the input reads as it did. -/
def fnExactAutomorphismsOfSpec : ChangeSpec := { name := "fnExactAutomorphismsOf", fn := fun _ => fun
  | [d] => { results := [.lit (.bool true)], args := [d] }
  | _ => none }
def fnExactAutomorphismsOfRow : OpenClaim := { program := "ytgdcdapkmiekeaa", sum := "a663564d563d6981c2ece95c33f4995a81592cfdccef2fc4bf4f2e8481c0ed1e", func := "loop.example/g01200/laws.FnExactAutomorphismsOf", spec := "fnExactAutomorphismsOf", apart := false }
def FnExactAutomorphismsOfSaid : Prop := fnExactAutomorphismsOfRow.holds Try.pinned (OpenSpec.ofChange fnExactAutomorphismsOfSpec)

/-- ITS FALSE NEIGHBOUR: 'it returns false'. Refute it at one input. -/
def fnExactAutomorphismsOfWrong : ChangeSpec := { name := "fnExactAutomorphismsOf", fn := fun _ => fun
  | [d] => { results := [.lit (.bool false)], args := [d] }
  | _ => none }
def FnExactAutomorphismsOfWrongFalsely : Prop := fnExactAutomorphismsOfRow.holds Try.pinned (OpenSpec.ofChange fnExactAutomorphismsOfWrong)

/-- 'laws.FnExactIsomorphismsOf': WHATEVER THE INPUT: true; the input reads as it did. -/
def fnExactIsomorphismsOfSpec : ChangeSpec := { name := "fnExactIsomorphismsOf", fn := fun _ => fun
  | [d1, d2] => { results := [.lit (.bool true)], args := [d1, d2] }
  | _ => none }
def fnExactIsomorphismsOfRow : OpenClaim := { program := "ytgdcdapkmiekeaa", sum := "a663564d563d6981c2ece95c33f4995a81592cfdccef2fc4bf4f2e8481c0ed1e", func := "loop.example/g01200/laws.FnExactIsomorphismsOf", spec := "fnExactIsomorphismsOf", apart := false }
def FnExactIsomorphismsOfSaid : Prop := fnExactIsomorphismsOfRow.holds Try.pinned (OpenSpec.ofChange fnExactIsomorphismsOfSpec)

/-- ITS FALSE NEIGHBOUR: 'it returns false'. Refute it at one input. -/
def fnExactIsomorphismsOfWrong : ChangeSpec := { name := "fnExactIsomorphismsOf", fn := fun _ => fun
  | [d1, d2] => { results := [.lit (.bool false)], args := [d1, d2] }
  | _ => none }
def FnExactIsomorphismsOfWrongFalsely : Prop := fnExactIsomorphismsOfRow.holds Try.pinned (OpenSpec.ofChange fnExactIsomorphismsOfWrong)

/- THE SECOND FORM. 'bulk': how many values and letters a reading holds, each counted each time it is reached (what is shared counts as often as it is met; a slice's spare places count too). A statement '..UptoSaid' is the law's where the arguments, and the package variables that the reading takes, are together of bulk at most 1048576: NARROWER than '..Said'. Prove '..Said' where nothing that the law and all that it calls make is longer than what came in: it says more and counts as full. Else prove '..UptoSaid'. A law counts once. -/
mutual
def uptoBulk {H : Type} : DataW H → Nat
  | .lit (.string bytes) => bytes.length + 1
  | .lit _ => 1
  | .nil => 1
  | .ptr d => uptoBulk d + 1
  | .slice elems spare => uptoBulkAll elems + uptoBulkAll spare + 1
  | .agg parts => uptoBulkAll parts + 1
  | .iface _ d => uptoBulk d + 1
  | .map entries => uptoBulkEntries entries + 1
  | .held _ => 1
def uptoBulkAll {H : Type} : List (DataW H) → Nat
  | [] => 0
  | d :: r => uptoBulk d + uptoBulkAll r
def uptoBulkEntries {H : Type} : List (Lit × DataW H) → Nat
  | [] => 0
  | x :: r => uptoBulkEntry x + uptoBulkEntries r
def uptoBulkEntry {H : Type} : Lit × DataW H → Nat
  | (.string bytes, d) => bytes.length + uptoBulk d + 1
  | (_, d) => uptoBulk d + 1
 end
def uptoSmall : (H : Type) → List (DataW H) → Bool := fun _ ds => decide (uptoBulkAll ds ≤ 1048576)
def OpenSpec.upto (s : _root_.Go.ChangeSpec) : _root_.Go.OpenSpec := { _root_.Go.OpenSpec.ofChange s with cond := some uptoSmall }

/-- 'laws.FnExactSignOf', WHERE WHAT IT READS IS OF BULK AT MOST 1048576: true; the input reads as it did. -/
def fnExactSignOfUptoRow : OpenClaim := { program := "ytgdcdapkmiekeaa", sum := "a663564d563d6981c2ece95c33f4995a81592cfdccef2fc4bf4f2e8481c0ed1e", func := "loop.example/g01200/laws.FnExactSignOf", spec := "fnExactSignOf", apart := false, narrowed := true }
def FnExactSignOfUptoSaid : Prop := fnExactSignOfUptoRow.holds Try.pinned (OpenSpec.upto fnExactSignOfSpec)

/-- 'laws.FnExactIsPassport', WHERE WHAT IT READS IS OF BULK AT MOST 1048576: true; the input reads as it did. -/
def fnExactIsPassportUptoRow : OpenClaim := { program := "ytgdcdapkmiekeaa", sum := "a663564d563d6981c2ece95c33f4995a81592cfdccef2fc4bf4f2e8481c0ed1e", func := "loop.example/g01200/laws.FnExactIsPassport", spec := "fnExactIsPassport", apart := false, narrowed := true }
def FnExactIsPassportUptoSaid : Prop := fnExactIsPassportUptoRow.holds Try.pinned (OpenSpec.upto fnExactIsPassportSpec)

/-- 'laws.FnExactPlacesOfCycles', WHERE WHAT IT READS IS OF BULK AT MOST 1048576: true; the input reads as it did. -/
def fnExactPlacesOfCyclesUptoRow : OpenClaim := { program := "ytgdcdapkmiekeaa", sum := "a663564d563d6981c2ece95c33f4995a81592cfdccef2fc4bf4f2e8481c0ed1e", func := "loop.example/g01200/laws.FnExactPlacesOfCycles", spec := "fnExactPlacesOfCycles", apart := false, narrowed := true }
def FnExactPlacesOfCyclesUptoSaid : Prop := fnExactPlacesOfCyclesUptoRow.holds Try.pinned (OpenSpec.upto fnExactPlacesOfCyclesSpec)

/-- 'laws.FnExactRenameDessin', WHERE WHAT IT READS IS OF BULK AT MOST 1048576: true; the input reads as it did. -/
def fnExactRenameDessinUptoRow : OpenClaim := { program := "ytgdcdapkmiekeaa", sum := "a663564d563d6981c2ece95c33f4995a81592cfdccef2fc4bf4f2e8481c0ed1e", func := "loop.example/g01200/laws.FnExactRenameDessin", spec := "fnExactRenameDessin", apart := false, narrowed := true }
def FnExactRenameDessinUptoSaid : Prop := fnExactRenameDessinUptoRow.holds Try.pinned (OpenSpec.upto fnExactRenameDessinSpec)

/-- 'laws.FnExactFaceOf', WHERE WHAT IT READS IS OF BULK AT MOST 1048576: true; the input reads as it did. -/
def fnExactFaceOfUptoRow : OpenClaim := { program := "ytgdcdapkmiekeaa", sum := "a663564d563d6981c2ece95c33f4995a81592cfdccef2fc4bf4f2e8481c0ed1e", func := "loop.example/g01200/laws.FnExactFaceOf", spec := "fnExactFaceOf", apart := false, narrowed := true }
def FnExactFaceOfUptoSaid : Prop := fnExactFaceOfUptoRow.holds Try.pinned (OpenSpec.upto fnExactFaceOfSpec)

/-- 'laws.FnExactCyclesOf', WHERE WHAT IT READS IS OF BULK AT MOST 1048576: true; the input reads as it did. -/
def fnExactCyclesOfUptoRow : OpenClaim := { program := "ytgdcdapkmiekeaa", sum := "a663564d563d6981c2ece95c33f4995a81592cfdccef2fc4bf4f2e8481c0ed1e", func := "loop.example/g01200/laws.FnExactCyclesOf", spec := "fnExactCyclesOf", apart := false, narrowed := true }
def FnExactCyclesOfUptoSaid : Prop := fnExactCyclesOfUptoRow.holds Try.pinned (OpenSpec.upto fnExactCyclesOfSpec)

/-- 'laws.FnExactIsEven', WHERE WHAT IT READS IS OF BULK AT MOST 1048576: true; the input reads as it did. -/
def fnExactIsEvenUptoRow : OpenClaim := { program := "ytgdcdapkmiekeaa", sum := "a663564d563d6981c2ece95c33f4995a81592cfdccef2fc4bf4f2e8481c0ed1e", func := "loop.example/g01200/laws.FnExactIsEven", spec := "fnExactIsEven", apart := false, narrowed := true }
def FnExactIsEvenUptoSaid : Prop := fnExactIsEvenUptoRow.holds Try.pinned (OpenSpec.upto fnExactIsEvenSpec)

/-- 'laws.FnExactNamingFrom', WHERE WHAT IT READS IS OF BULK AT MOST 1048576: true; the input reads as it did. -/
def fnExactNamingFromUptoRow : OpenClaim := { program := "ytgdcdapkmiekeaa", sum := "a663564d563d6981c2ece95c33f4995a81592cfdccef2fc4bf4f2e8481c0ed1e", func := "loop.example/g01200/laws.FnExactNamingFrom", spec := "fnExactNamingFrom", apart := false, narrowed := true }
def FnExactNamingFromUptoSaid : Prop := fnExactNamingFromUptoRow.holds Try.pinned (OpenSpec.upto fnExactNamingFromSpec)

/-- 'laws.FnExactCanonicalDessin', WHERE WHAT IT READS IS OF BULK AT MOST 1048576: true; the input reads as it did. -/
def fnExactCanonicalDessinUptoRow : OpenClaim := { program := "ytgdcdapkmiekeaa", sum := "a663564d563d6981c2ece95c33f4995a81592cfdccef2fc4bf4f2e8481c0ed1e", func := "loop.example/g01200/laws.FnExactCanonicalDessin", spec := "fnExactCanonicalDessin", inPlace := ["internal/bytealg.Compare"], apart := false, narrowed := true }
def FnExactCanonicalDessinUptoSaid : Prop := fnExactCanonicalDessinUptoRow.holds Try.pinned (OpenSpec.upto fnExactCanonicalDessinSpec)

/-- 'laws.FnExactQuotientBy', WHERE WHAT IT READS IS OF BULK AT MOST 1048576: true; the input reads as it did. -/
def fnExactQuotientByUptoRow : OpenClaim := { program := "ytgdcdapkmiekeaa", sum := "a663564d563d6981c2ece95c33f4995a81592cfdccef2fc4bf4f2e8481c0ed1e", func := "loop.example/g01200/laws.FnExactQuotientBy", spec := "fnExactQuotientBy", apart := false, narrowed := true }
def FnExactQuotientByUptoSaid : Prop := fnExactQuotientByUptoRow.holds Try.pinned (OpenSpec.upto fnExactQuotientBySpec)

/-- 'laws.FnExactIncidencesOf', WHERE WHAT IT READS IS OF BULK AT MOST 1048576: true; the input reads as it did. -/
def fnExactIncidencesOfUptoRow : OpenClaim := { program := "ytgdcdapkmiekeaa", sum := "a663564d563d6981c2ece95c33f4995a81592cfdccef2fc4bf4f2e8481c0ed1e", func := "loop.example/g01200/laws.FnExactIncidencesOf", spec := "fnExactIncidencesOf", apart := false, narrowed := true }
def FnExactIncidencesOfUptoSaid : Prop := fnExactIncidencesOfUptoRow.holds Try.pinned (OpenSpec.upto fnExactIncidencesOfSpec)

/-- 'laws.FnExactIsRegularDessin', WHERE WHAT IT READS IS OF BULK AT MOST 1048576: true; the input reads as it did. -/
def fnExactIsRegularDessinUptoRow : OpenClaim := { program := "ytgdcdapkmiekeaa", sum := "a663564d563d6981c2ece95c33f4995a81592cfdccef2fc4bf4f2e8481c0ed1e", func := "loop.example/g01200/laws.FnExactIsRegularDessin", spec := "fnExactIsRegularDessin", apart := false, narrowed := true }
def FnExactIsRegularDessinUptoSaid : Prop := fnExactIsRegularDessinUptoRow.holds Try.pinned (OpenSpec.upto fnExactIsRegularDessinSpec)

/-- 'laws.FnExactMorphismsOf', WHERE WHAT IT READS IS OF BULK AT MOST 1048576: true; the input reads as it did. -/
def fnExactMorphismsOfUptoRow : OpenClaim := { program := "ytgdcdapkmiekeaa", sum := "a663564d563d6981c2ece95c33f4995a81592cfdccef2fc4bf4f2e8481c0ed1e", func := "loop.example/g01200/laws.FnExactMorphismsOf", spec := "fnExactMorphismsOf", apart := false, narrowed := true }
def FnExactMorphismsOfUptoSaid : Prop := fnExactMorphismsOfUptoRow.holds Try.pinned (OpenSpec.upto fnExactMorphismsOfSpec)

/-- 'laws.FnExactAutomorphismsOf', WHERE WHAT IT READS IS OF BULK AT MOST 1048576: true; the input reads as it did. -/
def fnExactAutomorphismsOfUptoRow : OpenClaim := { program := "ytgdcdapkmiekeaa", sum := "a663564d563d6981c2ece95c33f4995a81592cfdccef2fc4bf4f2e8481c0ed1e", func := "loop.example/g01200/laws.FnExactAutomorphismsOf", spec := "fnExactAutomorphismsOf", apart := false, narrowed := true }
def FnExactAutomorphismsOfUptoSaid : Prop := fnExactAutomorphismsOfUptoRow.holds Try.pinned (OpenSpec.upto fnExactAutomorphismsOfSpec)

/-- 'laws.FnExactIsomorphismsOf', WHERE WHAT IT READS IS OF BULK AT MOST 1048576: true; the input reads as it did. -/
def fnExactIsomorphismsOfUptoRow : OpenClaim := { program := "ytgdcdapkmiekeaa", sum := "a663564d563d6981c2ece95c33f4995a81592cfdccef2fc4bf4f2e8481c0ed1e", func := "loop.example/g01200/laws.FnExactIsomorphismsOf", spec := "fnExactIsomorphismsOf", apart := false, narrowed := true }
def FnExactIsomorphismsOfUptoSaid : Prop := fnExactIsomorphismsOfUptoRow.holds Try.pinned (OpenSpec.upto fnExactIsomorphismsOfSpec)

end Rows
end Go.Proofs.Ytgdcdapkmiekeaa
