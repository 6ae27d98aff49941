/-
  DERIVED. GIVEN WITH THE SEED: THE CARDS: each row of YtibphjonmikciaaGreatDoorRows.lean that lists a variable, with what it lists TIED to the program's text (the seventh form; the later family's looks); each row that meets fmt, with fmt's text TOLD by the authors' own Lean function (tested against real Go, not proved from fmt's source: count such statements apart). THE CARD IS WHAT COUNTS. Prove the row's statement (the work); the ties are given (YtibphjonmikciaaGreatDoorTie.lean); close each card by the builder's one call (the guide's Derived/Test/ToyasCard.lean, 'card_holds'). Laid BY PROGRAM, IN A SANDBOX (cutbox-door.mjs). By AI agents, Wed Nov 11 2026. No macro, syntax, notation, axiom, sorry.
-/
import Derived.Test.YtibphjonmikciaaGreatDoorRows
import GoSem.ClaimSeven
namespace Go.Proofs.YtibphjonmikciaaGreatDoor
namespace Rows

/-- THE TIED CARD OF 'voussoirlaw20.FormulaValid'. -/
def formulaValidCard : Claim7 := { stood := { row := formulaValidRow, standIns := [], harness := (true, "3f7329bbec9b105c341647961f450cf868b1332659f6bd3ef24fc7daec0990e8"), looks := true }, kinds := [], alts := [], laidByText := true, laidKinds := [.data, .data, .data, .sentinel, .sentinel], laidTests := true, laidLooks := .later }
def FormulaValidCardSaid : Prop := Claim7.holds Tryz.pinned (.plain (OpenSpec.ofChange formulaValidSpec)) formulaValidCard

/-- THE TIED CARD OF 'voussoirlaw20.FormulaAt'. -/
def formulaAtCard : Claim7 := { stood := { row := formulaAtRow, standIns := [], harness := (true, "3f7329bbec9b105c341647961f450cf868b1332659f6bd3ef24fc7daec0990e8"), looks := true }, kinds := [], alts := [], laidByText := true, laidKinds := [.data, .data, .data, .sentinel, .sentinel], laidTests := true, laidLooks := .later }
def FormulaAtCardSaid : Prop := Claim7.holds Tryz.pinned (.plain (OpenSpec.ofChange formulaAtSpec)) formulaAtCard

/-- THE TIED CARD OF 'voussoirlaw20.FormulaBoth'. -/
def formulaBothCard : Claim7 := { stood := { row := formulaBothRow, standIns := [], harness := (true, "3f7329bbec9b105c341647961f450cf868b1332659f6bd3ef24fc7daec0990e8"), looks := true }, kinds := [], alts := [], laidByText := true, laidKinds := [.data, .data, .data, .sentinel, .sentinel], laidTests := true, laidLooks := .later }
def FormulaBothCardSaid : Prop := Claim7.holds Tryz.pinned (.plain (OpenSpec.ofChange formulaBothSpec)) formulaBothCard

/-- THE TIED CARD OF 'voussoirlaw20.FormulaTexts'. -/
def formulaTextsCard : Claim7 := { stood := { row := formulaTextsRow, standIns := [], harness := (true, "3f7329bbec9b105c341647961f450cf868b1332659f6bd3ef24fc7daec0990e8"), looks := true }, kinds := [], alts := [], laidByText := true, laidKinds := [.data, .data, .data, .sentinel, .sentinel], laidTests := true, laidLooks := .later }
def FormulaTextsCardSaid : Prop := Claim7.holds Tryz.pinned (.plain (OpenSpec.ofChange formulaTextsSpec)) formulaTextsCard

/-- THE TIED CARD OF 'voussoirlaw20.FormulaSat'. -/
def formulaSatCard : Claim7 := { stood := { row := formulaSatRow, standIns := [], harness := (true, "3f7329bbec9b105c341647961f450cf868b1332659f6bd3ef24fc7daec0990e8"), looks := true }, kinds := [], alts := [], laidByText := true, laidKinds := [.data, .data, .data, .sentinel, .sentinel], laidTests := true, laidLooks := .later }
def FormulaSatCardSaid : Prop := Claim7.holds Tryz.pinned (.plain (OpenSpec.ofChange formulaSatSpec)) formulaSatCard

/-- THE TIED CARD OF 'voussoirlaw20.FormulaImplies'. -/
def formulaImpliesCard : Claim7 := { stood := { row := formulaImpliesRow, standIns := [], harness := (true, "3f7329bbec9b105c341647961f450cf868b1332659f6bd3ef24fc7daec0990e8"), looks := true }, kinds := [], alts := [], laidByText := true, laidKinds := [.data, .data, .data, .sentinel, .sentinel], laidTests := true, laidLooks := .later }
def FormulaImpliesCardSaid : Prop := Claim7.holds Tryz.pinned (.plain (OpenSpec.ofChange formulaImpliesSpec)) formulaImpliesCard

/-- THE TIED CARD OF 'voussoirlaw20.FormulaDecides'. -/
def formulaDecidesCard : Claim7 := { stood := { row := formulaDecidesRow, standIns := [], harness := (true, "3f7329bbec9b105c341647961f450cf868b1332659f6bd3ef24fc7daec0990e8"), looks := true }, kinds := [], alts := [], laidByText := true, laidKinds := [.data, .data, .data, .sentinel, .sentinel], laidTests := true, laidLooks := .later }
def FormulaDecidesCardSaid : Prop := Claim7.holds Tryz.pinned (.plain (OpenSpec.ofChange formulaDecidesSpec)) formulaDecidesCard

/-- THE TIED CARD OF 'voussoirlaw20.FormulaOpposite'. -/
def formulaOppositeCard : Claim7 := { stood := { row := formulaOppositeRow, standIns := [], harness := (true, "3f7329bbec9b105c341647961f450cf868b1332659f6bd3ef24fc7daec0990e8"), looks := true }, kinds := [], alts := [], laidByText := true, laidKinds := [.data, .data, .data, .sentinel, .sentinel], laidTests := true, laidLooks := .later }
def FormulaOppositeCardSaid : Prop := Claim7.holds Tryz.pinned (.plain (OpenSpec.ofChange formulaOppositeSpec)) formulaOppositeCard

/-- THE TIED CARD OF 'voussoirlaw20.FormulaOwn'. -/
def formulaOwnCard : Claim7 := { stood := { row := formulaOwnRow, standIns := [], harness := (true, "3f7329bbec9b105c341647961f450cf868b1332659f6bd3ef24fc7daec0990e8"), looks := true }, kinds := [], alts := [], laidByText := true, laidKinds := [.data, .data, .data, .sentinel, .sentinel], laidTests := true, laidLooks := .later }
def FormulaOwnCardSaid : Prop := Claim7.holds Tryz.pinned (.plain (OpenSpec.ofChange formulaOwnSpec)) formulaOwnCard

/-- THE SECOND FORM's CARD OF 'voussoirlaw20.FormulaValid'. -/
def formulaValidUptoCard : Claim7 := { stood := { row := formulaValidUptoRow, standIns := [], harness := (true, "3f7329bbec9b105c341647961f450cf868b1332659f6bd3ef24fc7daec0990e8"), looks := true }, kinds := [], alts := [], laidByText := true, laidKinds := [.data, .data, .data, .sentinel, .sentinel], laidTests := true, laidLooks := .later }
def FormulaValidUptoCardSaid : Prop := Claim7.holds Tryz.pinned (.plain (OpenSpec.upto formulaValidSpec)) formulaValidUptoCard

/-- THE SECOND FORM's CARD OF 'voussoirlaw20.FormulaAt'. -/
def formulaAtUptoCard : Claim7 := { stood := { row := formulaAtUptoRow, standIns := [], harness := (true, "3f7329bbec9b105c341647961f450cf868b1332659f6bd3ef24fc7daec0990e8"), looks := true }, kinds := [], alts := [], laidByText := true, laidKinds := [.data, .data, .data, .sentinel, .sentinel], laidTests := true, laidLooks := .later }
def FormulaAtUptoCardSaid : Prop := Claim7.holds Tryz.pinned (.plain (OpenSpec.upto formulaAtSpec)) formulaAtUptoCard

/-- THE SECOND FORM's CARD OF 'voussoirlaw20.FormulaBoth'. -/
def formulaBothUptoCard : Claim7 := { stood := { row := formulaBothUptoRow, standIns := [], harness := (true, "3f7329bbec9b105c341647961f450cf868b1332659f6bd3ef24fc7daec0990e8"), looks := true }, kinds := [], alts := [], laidByText := true, laidKinds := [.data, .data, .data, .sentinel, .sentinel], laidTests := true, laidLooks := .later }
def FormulaBothUptoCardSaid : Prop := Claim7.holds Tryz.pinned (.plain (OpenSpec.upto formulaBothSpec)) formulaBothUptoCard

/-- THE SECOND FORM's CARD OF 'voussoirlaw20.FormulaTexts'. -/
def formulaTextsUptoCard : Claim7 := { stood := { row := formulaTextsUptoRow, standIns := [], harness := (true, "3f7329bbec9b105c341647961f450cf868b1332659f6bd3ef24fc7daec0990e8"), looks := true }, kinds := [], alts := [], laidByText := true, laidKinds := [.data, .data, .data, .sentinel, .sentinel], laidTests := true, laidLooks := .later }
def FormulaTextsUptoCardSaid : Prop := Claim7.holds Tryz.pinned (.plain (OpenSpec.upto formulaTextsSpec)) formulaTextsUptoCard

/-- THE SECOND FORM's CARD OF 'voussoirlaw20.FormulaSat'. -/
def formulaSatUptoCard : Claim7 := { stood := { row := formulaSatUptoRow, standIns := [], harness := (true, "3f7329bbec9b105c341647961f450cf868b1332659f6bd3ef24fc7daec0990e8"), looks := true }, kinds := [], alts := [], laidByText := true, laidKinds := [.data, .data, .data, .sentinel, .sentinel], laidTests := true, laidLooks := .later }
def FormulaSatUptoCardSaid : Prop := Claim7.holds Tryz.pinned (.plain (OpenSpec.upto formulaSatSpec)) formulaSatUptoCard

/-- THE SECOND FORM's CARD OF 'voussoirlaw20.FormulaImplies'. -/
def formulaImpliesUptoCard : Claim7 := { stood := { row := formulaImpliesUptoRow, standIns := [], harness := (true, "3f7329bbec9b105c341647961f450cf868b1332659f6bd3ef24fc7daec0990e8"), looks := true }, kinds := [], alts := [], laidByText := true, laidKinds := [.data, .data, .data, .sentinel, .sentinel], laidTests := true, laidLooks := .later }
def FormulaImpliesUptoCardSaid : Prop := Claim7.holds Tryz.pinned (.plain (OpenSpec.upto formulaImpliesSpec)) formulaImpliesUptoCard

/-- THE SECOND FORM's CARD OF 'voussoirlaw20.FormulaDecides'. -/
def formulaDecidesUptoCard : Claim7 := { stood := { row := formulaDecidesUptoRow, standIns := [], harness := (true, "3f7329bbec9b105c341647961f450cf868b1332659f6bd3ef24fc7daec0990e8"), looks := true }, kinds := [], alts := [], laidByText := true, laidKinds := [.data, .data, .data, .sentinel, .sentinel], laidTests := true, laidLooks := .later }
def FormulaDecidesUptoCardSaid : Prop := Claim7.holds Tryz.pinned (.plain (OpenSpec.upto formulaDecidesSpec)) formulaDecidesUptoCard

/-- THE SECOND FORM's CARD OF 'voussoirlaw20.FormulaOpposite'. -/
def formulaOppositeUptoCard : Claim7 := { stood := { row := formulaOppositeUptoRow, standIns := [], harness := (true, "3f7329bbec9b105c341647961f450cf868b1332659f6bd3ef24fc7daec0990e8"), looks := true }, kinds := [], alts := [], laidByText := true, laidKinds := [.data, .data, .data, .sentinel, .sentinel], laidTests := true, laidLooks := .later }
def FormulaOppositeUptoCardSaid : Prop := Claim7.holds Tryz.pinned (.plain (OpenSpec.upto formulaOppositeSpec)) formulaOppositeUptoCard

/-- THE SECOND FORM's CARD OF 'voussoirlaw20.FormulaOwn'. -/
def formulaOwnUptoCard : Claim7 := { stood := { row := formulaOwnUptoRow, standIns := [], harness := (true, "3f7329bbec9b105c341647961f450cf868b1332659f6bd3ef24fc7daec0990e8"), looks := true }, kinds := [], alts := [], laidByText := true, laidKinds := [.data, .data, .data, .sentinel, .sentinel], laidTests := true, laidLooks := .later }
def FormulaOwnUptoCardSaid : Prop := Claim7.holds Tryz.pinned (.plain (OpenSpec.upto formulaOwnSpec)) formulaOwnUptoCard
end Rows
end Go.Proofs.YtibphjonmikciaaGreatDoor
