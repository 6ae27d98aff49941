/-
  DERIVED. GIVEN WITH THE SEED: THE CARDS: each row of YtlbojoghnapbfaaGreatDoorRows.lean that lists a variable, with what it lists TIED to the program's text (the seventh form; the later family's looks); each row that meets fmt, with fmt's text TOLD by the authors' own Lean function (tested against real Go, not proved from fmt's source: count such statements apart). THE CARD IS WHAT COUNTS. Prove the row's statement (the work); the ties are given (YtlbojoghnapbfaaGreatDoorTie.lean); close each card by the builder's one call (the guide's Derived/Test/ToyasCard.lean, 'card_holds'). Laid BY PROGRAM, IN A SANDBOX (cutbox-door.mjs). By AI agents, Wed Nov 11 2026. No macro, syntax, notation, axiom, sorry.
-/
import Derived.Test.YtlbojoghnapbfaaGreatDoorRows
import GoSem.ClaimSeven
namespace Go.Proofs.YtlbojoghnapbfaaGreatDoor
namespace Rows

/-- THE TIED CARD OF 'voussoirlaw05.LexCuts'. -/
def lexCutsCard : Claim7 := { stood := { row := lexCutsRow, standIns := [], harness := (true, "7387306d9693750e358f11e6fc93fce3e03a6b6624494d935632d782d2b7c3ee"), looks := true }, kinds := [], alts := [], laidByText := true, laidKinds := [.data, .data, .data, .data, .sentinel, .sentinel, .listed, .data, .pinned], laidTests := true, laidLooks := .later }
def LexCutsCardSaid : Prop := Claim7.holds Tryz.pinned (.plain (OpenSpec.ofChange lexCutsSpec)) lexCutsCard

/-- THE TIED CARD OF 'voussoirlaw05.LexDefinitions'. -/
def lexDefinitionsCard : Claim7 := { stood := { row := lexDefinitionsRow, standIns := [], harness := (true, "7387306d9693750e358f11e6fc93fce3e03a6b6624494d935632d782d2b7c3ee"), looks := true }, kinds := [], alts := [], laidByText := true, laidKinds := [.data, .data, .data, .data, .sentinel, .sentinel, .listed, .data, .pinned], laidTests := true, laidLooks := .later }
def LexDefinitionsCardSaid : Prop := Claim7.holds Tryz.pinned (.plain (OpenSpec.ofChange lexDefinitionsSpec)) lexDefinitionsCard

/-- THE TIED CARD OF 'voussoirlaw05.LexLimits'. -/
def lexLimitsCard : Claim7 := { stood := { row := lexLimitsRow, standIns := [], harness := (true, "7387306d9693750e358f11e6fc93fce3e03a6b6624494d935632d782d2b7c3ee"), looks := true }, kinds := [], alts := [], laidByText := true, laidKinds := [.data, .data, .data, .data, .sentinel, .sentinel, .listed, .data, .pinned], laidTests := true, laidLooks := .later }
def LexLimitsCardSaid : Prop := Claim7.holds Tryz.pinned (.plain (OpenSpec.ofChange lexLimitsSpec)) lexLimitsCard

/-- THE SECOND FORM's CARD OF 'voussoirlaw05.LexCuts'. -/
def lexCutsUptoCard : Claim7 := { stood := { row := lexCutsUptoRow, standIns := [], harness := (true, "7387306d9693750e358f11e6fc93fce3e03a6b6624494d935632d782d2b7c3ee"), looks := true }, kinds := [], alts := [], laidByText := true, laidKinds := [.data, .data, .data, .data, .sentinel, .sentinel, .listed, .data, .pinned], laidTests := true, laidLooks := .later }
def LexCutsUptoCardSaid : Prop := Claim7.holds Tryz.pinned (.plain (OpenSpec.upto lexCutsSpec)) lexCutsUptoCard

/-- THE SECOND FORM's CARD OF 'voussoirlaw05.LexDefinitions'. -/
def lexDefinitionsUptoCard : Claim7 := { stood := { row := lexDefinitionsUptoRow, standIns := [], harness := (true, "7387306d9693750e358f11e6fc93fce3e03a6b6624494d935632d782d2b7c3ee"), looks := true }, kinds := [], alts := [], laidByText := true, laidKinds := [.data, .data, .data, .data, .sentinel, .sentinel, .listed, .data, .pinned], laidTests := true, laidLooks := .later }
def LexDefinitionsUptoCardSaid : Prop := Claim7.holds Tryz.pinned (.plain (OpenSpec.upto lexDefinitionsSpec)) lexDefinitionsUptoCard

/-- THE SECOND FORM's CARD OF 'voussoirlaw05.LexLimits'. -/
def lexLimitsUptoCard : Claim7 := { stood := { row := lexLimitsUptoRow, standIns := [], harness := (true, "7387306d9693750e358f11e6fc93fce3e03a6b6624494d935632d782d2b7c3ee"), looks := true }, kinds := [], alts := [], laidByText := true, laidKinds := [.data, .data, .data, .data, .sentinel, .sentinel, .listed, .data, .pinned], laidTests := true, laidLooks := .later }
def LexLimitsUptoCardSaid : Prop := Claim7.holds Tryz.pinned (.plain (OpenSpec.upto lexLimitsSpec)) lexLimitsUptoCard
end Rows
end Go.Proofs.YtlbojoghnapbfaaGreatDoor
