/-
  DERIVED. GIVEN WITH THE SEED: THE CARDS: each row of YtacekpdodelnbaaGreatDoorRows.lean that lists a variable, with what it lists TIED to the program's text (the seventh form; the later family's looks); each row that meets fmt, with fmt's text TOLD by the authors' own Lean function (tested against real Go, not proved from fmt's source: count such statements apart). THE CARD IS WHAT COUNTS. Prove the row's statement (the work); the ties are given (YtacekpdodelnbaaGreatDoorTie.lean); close each card by the builder's one call (the guide's Derived/Test/ToyasCard.lean, 'card_holds'). Laid BY PROGRAM, IN A SANDBOX (cutbox-door.mjs). By AI agents, Wed Nov 11 2026. No macro, syntax, notation, axiom, sorry.
-/
import Derived.Test.YtacekpdodelnbaaGreatDoorRows
import GoSem.ClaimSeven
namespace Go.Proofs.YtacekpdodelnbaaGreatDoor
namespace Rows

/-- THE TIED CARD OF 'voussoirlaw19.LinearValid'. -/
def linearValidCard : Claim7 := { stood := { row := linearValidRow, standIns := [], harness := (true, "32b8009ed83c85eee9a6940f38ad7355fbbee8bdc655ae1fdc6248feb5a230f5"), looks := true }, kinds := [], alts := [], laidByText := true, laidKinds := [.data, .data, .data, .sentinel, .sentinel], laidTests := true, laidLooks := .later }
def LinearValidCardSaid : Prop := Claim7.holds Tryz.pinned (.plain (OpenSpec.ofChange linearValidSpec)) linearValidCard

/-- THE TIED CARD OF 'voussoirlaw19.LinearSums'. -/
def linearSumsCard : Claim7 := { stood := { row := linearSumsRow, standIns := [], harness := (true, "32b8009ed83c85eee9a6940f38ad7355fbbee8bdc655ae1fdc6248feb5a230f5"), looks := true }, kinds := [], alts := [], laidByText := true, laidKinds := [.data, .data, .data, .sentinel, .sentinel], laidTests := true, laidLooks := .later }
def LinearSumsCardSaid : Prop := Claim7.holds Tryz.pinned (.plain (OpenSpec.ofChange linearSumsSpec)) linearSumsCard

/-- THE TIED CARD OF 'voussoirlaw19.LinearAt'. -/
def linearAtCard : Claim7 := { stood := { row := linearAtRow, standIns := [], harness := (true, "32b8009ed83c85eee9a6940f38ad7355fbbee8bdc655ae1fdc6248feb5a230f5"), looks := true }, kinds := [], alts := [], laidByText := true, laidKinds := [.data, .data, .data, .sentinel, .sentinel], laidTests := true, laidLooks := .later }
def LinearAtCardSaid : Prop := Claim7.holds Tryz.pinned (.plain (OpenSpec.ofChange linearAtSpec)) linearAtCard

/-- THE TIED CARD OF 'voussoirlaw19.LinearTexts'. -/
def linearTextsCard : Claim7 := { stood := { row := linearTextsRow, standIns := [], harness := (true, "32b8009ed83c85eee9a6940f38ad7355fbbee8bdc655ae1fdc6248feb5a230f5"), looks := true }, kinds := [], alts := [], laidByText := true, laidKinds := [.data, .data, .data, .sentinel, .sentinel], laidTests := true, laidLooks := .later }
def LinearTextsCardSaid : Prop := Claim7.holds Tryz.pinned (.plain (OpenSpec.ofChange linearTextsSpec)) linearTextsCard

/-- THE TIED CARD OF 'voussoirlaw19.LinearSat'. -/
def linearSatCard : Claim7 := { stood := { row := linearSatRow, standIns := [], harness := (true, "32b8009ed83c85eee9a6940f38ad7355fbbee8bdc655ae1fdc6248feb5a230f5"), looks := true }, kinds := [], alts := [], laidByText := true, laidKinds := [.data, .data, .data, .sentinel, .sentinel], laidTests := true, laidLooks := .later }
def LinearSatCardSaid : Prop := Claim7.holds Tryz.pinned (.plain (OpenSpec.ofChange linearSatSpec)) linearSatCard

/-- THE TIED CARD OF 'voussoirlaw19.LinearBounds'. -/
def linearBoundsCard : Claim7 := { stood := { row := linearBoundsRow, standIns := [], harness := (true, "32b8009ed83c85eee9a6940f38ad7355fbbee8bdc655ae1fdc6248feb5a230f5"), looks := true }, kinds := [], alts := [], laidByText := true, laidKinds := [.data, .data, .data, .sentinel, .sentinel], laidTests := true, laidLooks := .later }
def LinearBoundsCardSaid : Prop := Claim7.holds Tryz.pinned (.plain (OpenSpec.ofChange linearBoundsSpec)) linearBoundsCard

/-- THE TIED CARD OF 'voussoirlaw19.LinearImplies'. -/
def linearImpliesCard : Claim7 := { stood := { row := linearImpliesRow, standIns := [], harness := (true, "32b8009ed83c85eee9a6940f38ad7355fbbee8bdc655ae1fdc6248feb5a230f5"), looks := true }, kinds := [], alts := [], laidByText := true, laidKinds := [.data, .data, .data, .sentinel, .sentinel], laidTests := true, laidLooks := .later }
def LinearImpliesCardSaid : Prop := Claim7.holds Tryz.pinned (.plain (OpenSpec.ofChange linearImpliesSpec)) linearImpliesCard

/-- THE TIED CARD OF 'voussoirlaw19.LinearDecides'. -/
def linearDecidesCard : Claim7 := { stood := { row := linearDecidesRow, standIns := [], harness := (true, "32b8009ed83c85eee9a6940f38ad7355fbbee8bdc655ae1fdc6248feb5a230f5"), looks := true }, kinds := [], alts := [], laidByText := true, laidKinds := [.data, .data, .data, .sentinel, .sentinel], laidTests := true, laidLooks := .later }
def LinearDecidesCardSaid : Prop := Claim7.holds Tryz.pinned (.plain (OpenSpec.ofChange linearDecidesSpec)) linearDecidesCard

/-- THE TIED CARD OF 'voussoirlaw19.LinearNormal'. -/
def linearNormalCard : Claim7 := { stood := { row := linearNormalRow, standIns := [], harness := (true, "32b8009ed83c85eee9a6940f38ad7355fbbee8bdc655ae1fdc6248feb5a230f5"), looks := true }, kinds := [], alts := [], laidByText := true, laidKinds := [.data, .data, .data, .sentinel, .sentinel], laidTests := true, laidLooks := .later }
def LinearNormalCardSaid : Prop := Claim7.holds Tryz.pinned (.plain (OpenSpec.ofChange linearNormalSpec)) linearNormalCard

/-- THE TIED CARD OF 'voussoirlaw19.LinearOwn'. -/
def linearOwnCard : Claim7 := { stood := { row := linearOwnRow, standIns := [], harness := (true, "32b8009ed83c85eee9a6940f38ad7355fbbee8bdc655ae1fdc6248feb5a230f5"), looks := true }, kinds := [], alts := [], laidByText := true, laidKinds := [.data, .data, .data, .sentinel, .sentinel], laidTests := true, laidLooks := .later }
def LinearOwnCardSaid : Prop := Claim7.holds Tryz.pinned (.plain (OpenSpec.ofChange linearOwnSpec)) linearOwnCard

/-- THE SECOND FORM's CARD OF 'voussoirlaw19.LinearValid'. -/
def linearValidUptoCard : Claim7 := { stood := { row := linearValidUptoRow, standIns := [], harness := (true, "32b8009ed83c85eee9a6940f38ad7355fbbee8bdc655ae1fdc6248feb5a230f5"), looks := true }, kinds := [], alts := [], laidByText := true, laidKinds := [.data, .data, .data, .sentinel, .sentinel], laidTests := true, laidLooks := .later }
def LinearValidUptoCardSaid : Prop := Claim7.holds Tryz.pinned (.plain (OpenSpec.upto linearValidSpec)) linearValidUptoCard

/-- THE SECOND FORM's CARD OF 'voussoirlaw19.LinearSums'. -/
def linearSumsUptoCard : Claim7 := { stood := { row := linearSumsUptoRow, standIns := [], harness := (true, "32b8009ed83c85eee9a6940f38ad7355fbbee8bdc655ae1fdc6248feb5a230f5"), looks := true }, kinds := [], alts := [], laidByText := true, laidKinds := [.data, .data, .data, .sentinel, .sentinel], laidTests := true, laidLooks := .later }
def LinearSumsUptoCardSaid : Prop := Claim7.holds Tryz.pinned (.plain (OpenSpec.upto linearSumsSpec)) linearSumsUptoCard

/-- THE SECOND FORM's CARD OF 'voussoirlaw19.LinearAt'. -/
def linearAtUptoCard : Claim7 := { stood := { row := linearAtUptoRow, standIns := [], harness := (true, "32b8009ed83c85eee9a6940f38ad7355fbbee8bdc655ae1fdc6248feb5a230f5"), looks := true }, kinds := [], alts := [], laidByText := true, laidKinds := [.data, .data, .data, .sentinel, .sentinel], laidTests := true, laidLooks := .later }
def LinearAtUptoCardSaid : Prop := Claim7.holds Tryz.pinned (.plain (OpenSpec.upto linearAtSpec)) linearAtUptoCard

/-- THE SECOND FORM's CARD OF 'voussoirlaw19.LinearTexts'. -/
def linearTextsUptoCard : Claim7 := { stood := { row := linearTextsUptoRow, standIns := [], harness := (true, "32b8009ed83c85eee9a6940f38ad7355fbbee8bdc655ae1fdc6248feb5a230f5"), looks := true }, kinds := [], alts := [], laidByText := true, laidKinds := [.data, .data, .data, .sentinel, .sentinel], laidTests := true, laidLooks := .later }
def LinearTextsUptoCardSaid : Prop := Claim7.holds Tryz.pinned (.plain (OpenSpec.upto linearTextsSpec)) linearTextsUptoCard

/-- THE SECOND FORM's CARD OF 'voussoirlaw19.LinearSat'. -/
def linearSatUptoCard : Claim7 := { stood := { row := linearSatUptoRow, standIns := [], harness := (true, "32b8009ed83c85eee9a6940f38ad7355fbbee8bdc655ae1fdc6248feb5a230f5"), looks := true }, kinds := [], alts := [], laidByText := true, laidKinds := [.data, .data, .data, .sentinel, .sentinel], laidTests := true, laidLooks := .later }
def LinearSatUptoCardSaid : Prop := Claim7.holds Tryz.pinned (.plain (OpenSpec.upto linearSatSpec)) linearSatUptoCard

/-- THE SECOND FORM's CARD OF 'voussoirlaw19.LinearBounds'. -/
def linearBoundsUptoCard : Claim7 := { stood := { row := linearBoundsUptoRow, standIns := [], harness := (true, "32b8009ed83c85eee9a6940f38ad7355fbbee8bdc655ae1fdc6248feb5a230f5"), looks := true }, kinds := [], alts := [], laidByText := true, laidKinds := [.data, .data, .data, .sentinel, .sentinel], laidTests := true, laidLooks := .later }
def LinearBoundsUptoCardSaid : Prop := Claim7.holds Tryz.pinned (.plain (OpenSpec.upto linearBoundsSpec)) linearBoundsUptoCard

/-- THE SECOND FORM's CARD OF 'voussoirlaw19.LinearImplies'. -/
def linearImpliesUptoCard : Claim7 := { stood := { row := linearImpliesUptoRow, standIns := [], harness := (true, "32b8009ed83c85eee9a6940f38ad7355fbbee8bdc655ae1fdc6248feb5a230f5"), looks := true }, kinds := [], alts := [], laidByText := true, laidKinds := [.data, .data, .data, .sentinel, .sentinel], laidTests := true, laidLooks := .later }
def LinearImpliesUptoCardSaid : Prop := Claim7.holds Tryz.pinned (.plain (OpenSpec.upto linearImpliesSpec)) linearImpliesUptoCard

/-- THE SECOND FORM's CARD OF 'voussoirlaw19.LinearDecides'. -/
def linearDecidesUptoCard : Claim7 := { stood := { row := linearDecidesUptoRow, standIns := [], harness := (true, "32b8009ed83c85eee9a6940f38ad7355fbbee8bdc655ae1fdc6248feb5a230f5"), looks := true }, kinds := [], alts := [], laidByText := true, laidKinds := [.data, .data, .data, .sentinel, .sentinel], laidTests := true, laidLooks := .later }
def LinearDecidesUptoCardSaid : Prop := Claim7.holds Tryz.pinned (.plain (OpenSpec.upto linearDecidesSpec)) linearDecidesUptoCard

/-- THE SECOND FORM's CARD OF 'voussoirlaw19.LinearNormal'. -/
def linearNormalUptoCard : Claim7 := { stood := { row := linearNormalUptoRow, standIns := [], harness := (true, "32b8009ed83c85eee9a6940f38ad7355fbbee8bdc655ae1fdc6248feb5a230f5"), looks := true }, kinds := [], alts := [], laidByText := true, laidKinds := [.data, .data, .data, .sentinel, .sentinel], laidTests := true, laidLooks := .later }
def LinearNormalUptoCardSaid : Prop := Claim7.holds Tryz.pinned (.plain (OpenSpec.upto linearNormalSpec)) linearNormalUptoCard

/-- THE SECOND FORM's CARD OF 'voussoirlaw19.LinearOwn'. -/
def linearOwnUptoCard : Claim7 := { stood := { row := linearOwnUptoRow, standIns := [], harness := (true, "32b8009ed83c85eee9a6940f38ad7355fbbee8bdc655ae1fdc6248feb5a230f5"), looks := true }, kinds := [], alts := [], laidByText := true, laidKinds := [.data, .data, .data, .sentinel, .sentinel], laidTests := true, laidLooks := .later }
def LinearOwnUptoCardSaid : Prop := Claim7.holds Tryz.pinned (.plain (OpenSpec.upto linearOwnSpec)) linearOwnUptoCard
end Rows
end Go.Proofs.YtacekpdodelnbaaGreatDoor
