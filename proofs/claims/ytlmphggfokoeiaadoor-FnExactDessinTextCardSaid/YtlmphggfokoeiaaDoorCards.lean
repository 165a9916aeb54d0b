/-
  DERIVED. GIVEN WITH THE SEED: THE CARDS: each row of YtlmphggfokoeiaaDoorRows.lean that lists a variable, with what it lists TIED to the program's text (the seventh form; the later family's looks); each row that meets fmt, with fmt's text TOLD by the authors' own Lean function (tested against real Go, not proved from fmt's source: count such statements apart). THE CARD IS WHAT COUNTS. Prove the row's statement (the work); the ties are given (YtlmphggfokoeiaaDoorTie.lean); close each card by the builder's one call (the guide's Derived/Test/ToyasCard.lean, 'card_holds'). Laid BY PROGRAM, IN A SANDBOX (cutbox-door.mjs). By AI agents, Wed Nov 11 2026. No macro, syntax, notation, axiom, sorry.
-/
import Derived.Test.YtlmphggfokoeiaaDoorRows
import GoSem.ClaimSeven
namespace Go.Proofs.YtlmphggfokoeiaaDoor
namespace Rows

/-- THE TIED CARD OF 'laws.FnExactDessinText'. -/
def fnExactDessinTextCard : Claim7 := { stood := { row := fnExactDessinTextRow, standIns := [], harness := (true, "56f49dcfc6ec48b2578857fdc77e5926613b3a25903ea503e4d0b08ad2dedf40"), looks := false }, kinds := [], alts := [], laidByText := true, laidKinds := [.data, .data, .data], laidTests := true, laidLooks := .later }
def FnExactDessinTextCardSaid : Prop := Claim7.holds Tryd.pinned (.plain (OpenSpec.ofChange fnExactDessinTextSpec)) fnExactDessinTextCard

/-- THE TIED CARD OF 'laws.FnExactValueOfWord'. -/
def fnExactValueOfWordCard : Claim7 := { stood := { row := fnExactValueOfWordRow, standIns := [], harness := (true, "56f49dcfc6ec48b2578857fdc77e5926613b3a25903ea503e4d0b08ad2dedf40"), looks := false }, kinds := [], alts := [], laidByText := true, laidKinds := [.data, .pinned], laidTests := true, laidLooks := .later }
def FnExactValueOfWordCardSaid : Prop := Claim7.holds Tryd.pinned (.plain (OpenSpec.ofChange fnExactValueOfWordSpec)) fnExactValueOfWordCard

/-- THE TIED CARD OF 'laws.FnExactOrderOfWord'. -/
def fnExactOrderOfWordCard : Claim7 := { stood := { row := fnExactOrderOfWordRow, standIns := [], harness := (true, "56f49dcfc6ec48b2578857fdc77e5926613b3a25903ea503e4d0b08ad2dedf40"), looks := false }, kinds := [], alts := [], laidByText := true, laidKinds := [.data, .pinned], laidTests := true, laidLooks := .later }
def FnExactOrderOfWordCardSaid : Prop := Claim7.holds Tryd.pinned (.plain (OpenSpec.ofChange fnExactOrderOfWordSpec)) fnExactOrderOfWordCard

/-- THE SECOND FORM's CARD OF 'laws.FnExactDessinText'. -/
def fnExactDessinTextUptoCard : Claim7 := { stood := { row := fnExactDessinTextUptoRow, standIns := [], harness := (true, "56f49dcfc6ec48b2578857fdc77e5926613b3a25903ea503e4d0b08ad2dedf40"), looks := false }, kinds := [], alts := [], laidByText := true, laidKinds := [.data, .data, .data], laidTests := true, laidLooks := .later }
def FnExactDessinTextUptoCardSaid : Prop := Claim7.holds Tryd.pinned (.plain (OpenSpec.upto fnExactDessinTextSpec)) fnExactDessinTextUptoCard

/-- THE SECOND FORM's CARD OF 'laws.FnExactValueOfWord'. -/
def fnExactValueOfWordUptoCard : Claim7 := { stood := { row := fnExactValueOfWordUptoRow, standIns := [], harness := (true, "56f49dcfc6ec48b2578857fdc77e5926613b3a25903ea503e4d0b08ad2dedf40"), looks := false }, kinds := [], alts := [], laidByText := true, laidKinds := [.data, .pinned], laidTests := true, laidLooks := .later }
def FnExactValueOfWordUptoCardSaid : Prop := Claim7.holds Tryd.pinned (.plain (OpenSpec.upto fnExactValueOfWordSpec)) fnExactValueOfWordUptoCard

/-- THE SECOND FORM's CARD OF 'laws.FnExactOrderOfWord'. -/
def fnExactOrderOfWordUptoCard : Claim7 := { stood := { row := fnExactOrderOfWordUptoRow, standIns := [], harness := (true, "56f49dcfc6ec48b2578857fdc77e5926613b3a25903ea503e4d0b08ad2dedf40"), looks := false }, kinds := [], alts := [], laidByText := true, laidKinds := [.data, .pinned], laidTests := true, laidLooks := .later }
def FnExactOrderOfWordUptoCardSaid : Prop := Claim7.holds Tryd.pinned (.plain (OpenSpec.upto fnExactOrderOfWordSpec)) fnExactOrderOfWordUptoCard
end Rows
end Go.Proofs.YtlmphggfokoeiaaDoor
