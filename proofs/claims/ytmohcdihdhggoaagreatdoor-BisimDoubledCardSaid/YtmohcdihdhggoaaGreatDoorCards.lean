/-
  DERIVED. GIVEN WITH THE SEED: THE CARDS: each row of YtmohcdihdhggoaaGreatDoorRows.lean that lists a variable, with what it lists TIED to the program's text (the seventh form; the later family's looks); each row that meets fmt, with fmt's text TOLD by the authors' own Lean function (tested against real Go, not proved from fmt's source: count such statements apart). THE CARD IS WHAT COUNTS. Prove the row's statement (the work); the ties are given (YtmohcdihdhggoaaGreatDoorTie.lean); close each card by the builder's one call (the guide's Derived/Test/ToyasCard.lean, 'card_holds'). Laid BY PROGRAM, IN A SANDBOX (cutbox-door.mjs). By AI agents, Wed Nov 11 2026. No macro, syntax, notation, axiom, sorry.
-/
import Derived.Test.YtmohcdihdhggoaaGreatDoorRows
import GoSem.ClaimSeven
namespace Go.Proofs.YtmohcdihdhggoaaGreatDoor
namespace Rows

/-- THE TIED CARD OF 'voussoirlaw28.BisimClasses'. -/
def bisimClassesCard : Claim7 := { stood := { row := bisimClassesRow, standIns := [], harness := (true, "c1e96a45649913005065c9f2e5c4a11fea0e1d387bda61700bb85047d3b14593"), looks := false }, kinds := [], alts := [], laidByText := true, laidKinds := [.data, .data, .data, .data, .pinned, .pinned, .pinned, .pinned, .pinned, .pinned], laidTests := true, laidLooks := .later }
def BisimClassesCardSaid : Prop := Claim7.holds Tryz.pinned (.plain (OpenSpec.ofChange bisimClassesSpec)) bisimClassesCard

/-- THE TIED CARD OF 'voussoirlaw28.BisimDiffer'. -/
def bisimDifferCard : Claim7 := { stood := { row := bisimDifferRow, standIns := [], harness := (true, "c1e96a45649913005065c9f2e5c4a11fea0e1d387bda61700bb85047d3b14593"), looks := false }, kinds := [], alts := [], laidByText := true, laidKinds := [.data, .data, .data, .data, .pinned, .pinned, .pinned, .pinned, .pinned, .pinned], laidTests := true, laidLooks := .later }
def BisimDifferCardSaid : Prop := Claim7.holds Tryz.pinned (.plain (OpenSpec.ofChange bisimDifferSpec)) bisimDifferCard

/-- THE TIED CARD OF 'voussoirlaw28.BisimSat'. -/
def bisimSatCard : Claim7 := { stood := { row := bisimSatRow, standIns := [], harness := (true, "c1e96a45649913005065c9f2e5c4a11fea0e1d387bda61700bb85047d3b14593"), looks := false }, kinds := [], alts := [], laidByText := true, laidKinds := [.data, .data, .data, .data, .pinned, .pinned, .pinned, .pinned, .pinned, .pinned], laidTests := true, laidLooks := .later }
def BisimSatCardSaid : Prop := Claim7.holds Tryz.pinned (.plain (OpenSpec.ofChange bisimSatSpec)) bisimSatCard

/-- THE TIED CARD OF 'voussoirlaw28.BisimSmall'. -/
def bisimSmallCard : Claim7 := { stood := { row := bisimSmallRow, standIns := [], harness := (true, "c1e96a45649913005065c9f2e5c4a11fea0e1d387bda61700bb85047d3b14593"), looks := false }, kinds := [], alts := [], laidByText := true, laidKinds := [.data, .data, .data, .data, .pinned, .pinned, .pinned, .pinned, .pinned, .pinned], laidTests := true, laidLooks := .later }
def BisimSmallCardSaid : Prop := Claim7.holds Tryz.pinned (.plain (OpenSpec.ofChange bisimSmallSpec)) bisimSmallCard

/-- THE TIED CARD OF 'voussoirlaw28.BisimFormulas'. -/
def bisimFormulasCard : Claim7 := { stood := { row := bisimFormulasRow, standIns := [], harness := (true, "c1e96a45649913005065c9f2e5c4a11fea0e1d387bda61700bb85047d3b14593"), looks := false }, kinds := [], alts := [], laidByText := true, laidKinds := [.data, .data, .data, .data, .pinned, .pinned, .pinned, .pinned, .pinned, .pinned], laidTests := true, laidLooks := .later }
def BisimFormulasCardSaid : Prop := Claim7.holds Tryz.pinned (.plain (OpenSpec.ofChange bisimFormulasSpec)) bisimFormulasCard

/-- THE TIED CARD OF 'voussoirlaw28.BisimDoubled'. -/
def bisimDoubledCard : Claim7 := { stood := { row := bisimDoubledRow, standIns := [], harness := (true, "c1e96a45649913005065c9f2e5c4a11fea0e1d387bda61700bb85047d3b14593"), looks := false }, kinds := [], alts := [], laidByText := true, laidKinds := [.data, .data, .data, .data, .pinned, .pinned, .pinned, .pinned, .pinned, .pinned], laidTests := true, laidLooks := .later }
def BisimDoubledCardSaid : Prop := Claim7.holds Tryz.pinned (.plain (OpenSpec.ofChange bisimDoubledSpec)) bisimDoubledCard

/-- THE TIED CARD OF 'voussoirlaw28.BisimOwn'. -/
def bisimOwnCard : Claim7 := { stood := { row := bisimOwnRow, standIns := [], harness := (true, "c1e96a45649913005065c9f2e5c4a11fea0e1d387bda61700bb85047d3b14593"), looks := false }, kinds := [], alts := [], laidByText := true, laidKinds := [.data, .data, .data, .data, .pinned, .pinned, .pinned, .pinned, .pinned, .pinned], laidTests := true, laidLooks := .later }
def BisimOwnCardSaid : Prop := Claim7.holds Tryz.pinned (.plain (OpenSpec.ofChange bisimOwnSpec)) bisimOwnCard
end Rows
end Go.Proofs.YtmohcdihdhggoaaGreatDoor
