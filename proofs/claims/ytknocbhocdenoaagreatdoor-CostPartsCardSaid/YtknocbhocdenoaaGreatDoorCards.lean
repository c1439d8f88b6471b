/-
  DERIVED. GIVEN WITH THE SEED: THE CARDS: each row of YtknocbhocdenoaaGreatDoorRows.lean that lists a variable, with what it lists TIED to the program's text (the seventh form; the later family's looks); each row that meets fmt, with fmt's text TOLD by the authors' own Lean function (tested against real Go, not proved from fmt's source: count such statements apart). THE CARD IS WHAT COUNTS. Prove the row's statement (the work); the ties are given (YtknocbhocdenoaaGreatDoorTie.lean); close each card by the builder's one call (the guide's Derived/Test/ToyasCard.lean, 'card_holds'). Laid BY PROGRAM, IN A SANDBOX (cutbox-door.mjs). By AI agents, Wed Nov 11 2026. No macro, syntax, notation, axiom, sorry.
-/
import Derived.Test.YtknocbhocdenoaaGreatDoorRows
import GoSem.ClaimSeven
namespace Go.Proofs.YtknocbhocdenoaaGreatDoor
namespace Rows

/-- THE TIED CARD OF 'tripwirelaw15.TypesChecks'. -/
def typesChecksCard : Claim7 := { stood := { row := typesChecksRow, standIns := [], harness := (true, "9abeb16d8adb9a1320dcc905a9192c230b8dbeb117e6934aeee7d1c6e9696810"), looks := true }, kinds := [], alts := [], laidByText := true, laidKinds := [.handle], laidTests := true, laidLooks := .later }
def TypesChecksCardSaid : Prop := Claim7.holds Tryz.pinned (.plain (OpenSpec.ofChange typesChecksSpec)) typesChecksCard

/-- THE TIED CARD OF 'tripwirelaw15.TypesTexts'. -/
def typesTextsCard : Claim7 := { stood := { row := typesTextsRow, standIns := [], harness := (true, "9abeb16d8adb9a1320dcc905a9192c230b8dbeb117e6934aeee7d1c6e9696810"), looks := true }, kinds := [], alts := [], laidByText := true, laidKinds := [.handle], laidTests := true, laidLooks := .later }
def TypesTextsCardSaid : Prop := Claim7.holds Tryz.pinned (.plain (OpenSpec.ofChange typesTextsSpec)) typesTextsCard

/-- THE TIED CARD OF 'tripwirelaw15.TypesOfs'. -/
def typesOfsCard : Claim7 := { stood := { row := typesOfsRow, standIns := [], harness := (true, "9abeb16d8adb9a1320dcc905a9192c230b8dbeb117e6934aeee7d1c6e9696810"), looks := true }, kinds := [], alts := [], laidByText := true, laidKinds := [.handle], laidTests := true, laidLooks := .later }
def TypesOfsCardSaid : Prop := Claim7.holds Tryz.pinned (.plain (OpenSpec.ofChange typesOfsSpec)) typesOfsCard

/-- THE TIED CARD OF 'tripwirelaw15.TypesChains'. -/
def typesChainsCard : Claim7 := { stood := { row := typesChainsRow, standIns := [], harness := (true, "9abeb16d8adb9a1320dcc905a9192c230b8dbeb117e6934aeee7d1c6e9696810"), looks := true }, kinds := [], alts := [], laidByText := true, laidKinds := [.handle], laidTests := true, laidLooks := .later }
def TypesChainsCardSaid : Prop := Claim7.holds Tryz.pinned (.plain (OpenSpec.ofChange typesChainsSpec)) typesChainsCard

/-- THE TIED CARD OF 'tripwirelaw15.TypesParts'. -/
def typesPartsCard : Claim7 := { stood := { row := typesPartsRow, standIns := [], harness := (true, "9abeb16d8adb9a1320dcc905a9192c230b8dbeb117e6934aeee7d1c6e9696810"), looks := true }, kinds := [], alts := [], laidByText := true, laidKinds := [.handle], laidTests := true, laidLooks := .later }
def TypesPartsCardSaid : Prop := Claim7.holds Tryz.pinned (.plain (OpenSpec.ofChange typesPartsSpec)) typesPartsCard

/-- THE TIED CARD OF 'tripwirelaw15.TypesNames'. -/
def typesNamesCard : Claim7 := { stood := { row := typesNamesRow, standIns := [], harness := (true, "9abeb16d8adb9a1320dcc905a9192c230b8dbeb117e6934aeee7d1c6e9696810"), looks := true }, kinds := [], alts := [], laidByText := true, laidKinds := [.handle], laidTests := true, laidLooks := .later }
def TypesNamesCardSaid : Prop := Claim7.holds Tryz.pinned (.plain (OpenSpec.ofChange typesNamesSpec)) typesNamesCard

/-- THE TIED CARD OF 'tripwirelaw15.TypesTwice'. -/
def typesTwiceCard : Claim7 := { stood := { row := typesTwiceRow, standIns := [], harness := (true, "9abeb16d8adb9a1320dcc905a9192c230b8dbeb117e6934aeee7d1c6e9696810"), looks := true }, kinds := [], alts := [], laidByText := true, laidKinds := [.handle], laidTests := true, laidLooks := .later }
def TypesTwiceCardSaid : Prop := Claim7.holds Tryz.pinned (.plain (OpenSpec.ofChange typesTwiceSpec)) typesTwiceCard

/-- THE TIED CARD OF 'tripwirelaw13.ParseStrategies'. -/
def parseStrategiesCard : Claim7 := { stood := { row := parseStrategiesRow, standIns := [], harness := (true, "9abeb16d8adb9a1320dcc905a9192c230b8dbeb117e6934aeee7d1c6e9696810"), looks := true }, kinds := [], alts := [], laidByText := true, laidKinds := [.handle], laidTests := true, laidLooks := .later }
def ParseStrategiesCardSaid : Prop := Claim7.holds Tryz.pinned (.plain (OpenSpec.ofChange parseStrategiesSpec)) parseStrategiesCard

/-- THE TIED CARD OF 'tripwirelaw13.ParseExprs'. -/
def parseExprsCard : Claim7 := { stood := { row := parseExprsRow, standIns := [], harness := (true, "9abeb16d8adb9a1320dcc905a9192c230b8dbeb117e6934aeee7d1c6e9696810"), looks := true }, kinds := [], alts := [], laidByText := true, laidKinds := [.handle], laidTests := true, laidLooks := .later }
def ParseExprsCardSaid : Prop := Claim7.holds Tryz.pinned (.plain (OpenSpec.ofChange parseExprsSpec)) parseExprsCard

/-- THE TIED CARD OF 'tripwirelaw13.ParseChains'. -/
def parseChainsCard : Claim7 := { stood := { row := parseChainsRow, standIns := [], harness := (true, "9abeb16d8adb9a1320dcc905a9192c230b8dbeb117e6934aeee7d1c6e9696810"), looks := true }, kinds := [], alts := [], laidByText := true, laidKinds := [.handle], laidTests := true, laidLooks := .later }
def ParseChainsCardSaid : Prop := Claim7.holds Tryz.pinned (.plain (OpenSpec.ofChange parseChainsSpec)) parseChainsCard

/-- THE TIED CARD OF 'tripwirelaw13.ParseSound'. -/
def parseSoundCard : Claim7 := { stood := { row := parseSoundRow, standIns := [], harness := (true, "9abeb16d8adb9a1320dcc905a9192c230b8dbeb117e6934aeee7d1c6e9696810"), looks := true }, kinds := [], alts := [], laidByText := true, laidKinds := [.handle], laidTests := true, laidLooks := .later }
def ParseSoundCardSaid : Prop := Claim7.holds Tryz.pinned (.plain (OpenSpec.ofChange parseSoundSpec)) parseSoundCard

/-- THE TIED CARD OF 'tripwirelaw13.ParseSpaced'. -/
def parseSpacedCard : Claim7 := { stood := { row := parseSpacedRow, standIns := [], harness := (true, "9abeb16d8adb9a1320dcc905a9192c230b8dbeb117e6934aeee7d1c6e9696810"), looks := true }, kinds := [], alts := [], laidByText := true, laidKinds := [.handle], laidTests := true, laidLooks := .later }
def ParseSpacedCardSaid : Prop := Claim7.holds Tryz.pinned (.plain (OpenSpec.ofChange parseSpacedSpec)) parseSpacedCard

/-- THE TIED CARD OF 'tripwirelaw16.CostExprs'. -/
def costExprsCard : Claim7 := { stood := { row := costExprsRow, standIns := [], harness := (true, "9abeb16d8adb9a1320dcc905a9192c230b8dbeb117e6934aeee7d1c6e9696810"), looks := true }, kinds := [], alts := [], laidByText := true, laidKinds := [.handle], laidTests := true, laidLooks := .later }
def CostExprsCardSaid : Prop := Claim7.holds Tryz.pinned (.plain (OpenSpec.ofChange costExprsSpec)) costExprsCard

/-- THE TIED CARD OF 'tripwirelaw16.CostParts'. -/
def costPartsCard : Claim7 := { stood := { row := costPartsRow, standIns := [], harness := (true, "9abeb16d8adb9a1320dcc905a9192c230b8dbeb117e6934aeee7d1c6e9696810"), looks := true }, kinds := [], alts := [], laidByText := true, laidKinds := [.handle], laidTests := true, laidLooks := .later }
def CostPartsCardSaid : Prop := Claim7.holds Tryz.pinned (.plain (OpenSpec.ofChange costPartsSpec)) costPartsCard

/-- THE TIED CARD OF 'tripwirelaw16.CostSizes'. -/
def costSizesCard : Claim7 := { stood := { row := costSizesRow, standIns := [], harness := (true, "9abeb16d8adb9a1320dcc905a9192c230b8dbeb117e6934aeee7d1c6e9696810"), looks := true }, kinds := [], alts := [], laidByText := true, laidKinds := [.handle], laidTests := true, laidLooks := .later }
def CostSizesCardSaid : Prop := Claim7.holds Tryz.pinned (.plain (OpenSpec.ofChange costSizesSpec)) costSizesCard

/-- THE TIED CARD OF 'tripwirelaw13.ParseWraps'. -/
def parseWrapsCard : Claim7 := { stood := { row := parseWrapsRow, standIns := [], harness := (true, "9abeb16d8adb9a1320dcc905a9192c230b8dbeb117e6934aeee7d1c6e9696810"), looks := true }, kinds := [], alts := [], laidByText := true, laidKinds := [.handle], laidTests := true, laidLooks := .later }
def ParseWrapsCardSaid : Prop := Claim7.holds Tryz.pinned (.plain (OpenSpec.ofChange parseWrapsSpec)) parseWrapsCard

/-- THE TIED CARD OF 'tripwirelaw16.CostStates'. -/
def costStatesCard : Claim7 := { stood := { row := costStatesRow, standIns := [], harness := (true, "9abeb16d8adb9a1320dcc905a9192c230b8dbeb117e6934aeee7d1c6e9696810"), looks := true }, kinds := [], alts := [], laidByText := true, laidKinds := [.handle], laidTests := true, laidLooks := .later }
def CostStatesCardSaid : Prop := Claim7.holds Tryz.pinned (.plain (OpenSpec.ofChange costStatesSpec)) costStatesCard

/-- THE TIED CARD OF 'tripwirelaw16.CostStrategies'. -/
def costStrategiesCard : Claim7 := { stood := { row := costStrategiesRow, standIns := [], harness := (true, "9abeb16d8adb9a1320dcc905a9192c230b8dbeb117e6934aeee7d1c6e9696810"), looks := true }, kinds := [], alts := [], laidByText := true, laidKinds := [.handle], laidTests := true, laidLooks := .later }
def CostStrategiesCardSaid : Prop := Claim7.holds Tryz.pinned (.plain (OpenSpec.ofChange costStrategiesSpec)) costStrategiesCard

/-- THE SECOND FORM's CARD OF 'tripwirelaw15.TypesChecks'. -/
def typesChecksUptoCard : Claim7 := { stood := { row := typesChecksUptoRow, standIns := [], harness := (true, "9abeb16d8adb9a1320dcc905a9192c230b8dbeb117e6934aeee7d1c6e9696810"), looks := true }, kinds := [], alts := [], laidByText := true, laidKinds := [.handle], laidTests := true, laidLooks := .later }
def TypesChecksUptoCardSaid : Prop := Claim7.holds Tryz.pinned (.plain (OpenSpec.upto typesChecksSpec)) typesChecksUptoCard

/-- THE SECOND FORM's CARD OF 'tripwirelaw15.TypesTexts'. -/
def typesTextsUptoCard : Claim7 := { stood := { row := typesTextsUptoRow, standIns := [], harness := (true, "9abeb16d8adb9a1320dcc905a9192c230b8dbeb117e6934aeee7d1c6e9696810"), looks := true }, kinds := [], alts := [], laidByText := true, laidKinds := [.handle], laidTests := true, laidLooks := .later }
def TypesTextsUptoCardSaid : Prop := Claim7.holds Tryz.pinned (.plain (OpenSpec.upto typesTextsSpec)) typesTextsUptoCard

/-- THE SECOND FORM's CARD OF 'tripwirelaw15.TypesOfs'. -/
def typesOfsUptoCard : Claim7 := { stood := { row := typesOfsUptoRow, standIns := [], harness := (true, "9abeb16d8adb9a1320dcc905a9192c230b8dbeb117e6934aeee7d1c6e9696810"), looks := true }, kinds := [], alts := [], laidByText := true, laidKinds := [.handle], laidTests := true, laidLooks := .later }
def TypesOfsUptoCardSaid : Prop := Claim7.holds Tryz.pinned (.plain (OpenSpec.upto typesOfsSpec)) typesOfsUptoCard

/-- THE SECOND FORM's CARD OF 'tripwirelaw15.TypesChains'. -/
def typesChainsUptoCard : Claim7 := { stood := { row := typesChainsUptoRow, standIns := [], harness := (true, "9abeb16d8adb9a1320dcc905a9192c230b8dbeb117e6934aeee7d1c6e9696810"), looks := true }, kinds := [], alts := [], laidByText := true, laidKinds := [.handle], laidTests := true, laidLooks := .later }
def TypesChainsUptoCardSaid : Prop := Claim7.holds Tryz.pinned (.plain (OpenSpec.upto typesChainsSpec)) typesChainsUptoCard

/-- THE SECOND FORM's CARD OF 'tripwirelaw15.TypesParts'. -/
def typesPartsUptoCard : Claim7 := { stood := { row := typesPartsUptoRow, standIns := [], harness := (true, "9abeb16d8adb9a1320dcc905a9192c230b8dbeb117e6934aeee7d1c6e9696810"), looks := true }, kinds := [], alts := [], laidByText := true, laidKinds := [.handle], laidTests := true, laidLooks := .later }
def TypesPartsUptoCardSaid : Prop := Claim7.holds Tryz.pinned (.plain (OpenSpec.upto typesPartsSpec)) typesPartsUptoCard

/-- THE SECOND FORM's CARD OF 'tripwirelaw15.TypesNames'. -/
def typesNamesUptoCard : Claim7 := { stood := { row := typesNamesUptoRow, standIns := [], harness := (true, "9abeb16d8adb9a1320dcc905a9192c230b8dbeb117e6934aeee7d1c6e9696810"), looks := true }, kinds := [], alts := [], laidByText := true, laidKinds := [.handle], laidTests := true, laidLooks := .later }
def TypesNamesUptoCardSaid : Prop := Claim7.holds Tryz.pinned (.plain (OpenSpec.upto typesNamesSpec)) typesNamesUptoCard

/-- THE SECOND FORM's CARD OF 'tripwirelaw15.TypesTwice'. -/
def typesTwiceUptoCard : Claim7 := { stood := { row := typesTwiceUptoRow, standIns := [], harness := (true, "9abeb16d8adb9a1320dcc905a9192c230b8dbeb117e6934aeee7d1c6e9696810"), looks := true }, kinds := [], alts := [], laidByText := true, laidKinds := [.handle], laidTests := true, laidLooks := .later }
def TypesTwiceUptoCardSaid : Prop := Claim7.holds Tryz.pinned (.plain (OpenSpec.upto typesTwiceSpec)) typesTwiceUptoCard

/-- THE SECOND FORM's CARD OF 'tripwirelaw13.ParseStrategies'. -/
def parseStrategiesUptoCard : Claim7 := { stood := { row := parseStrategiesUptoRow, standIns := [], harness := (true, "9abeb16d8adb9a1320dcc905a9192c230b8dbeb117e6934aeee7d1c6e9696810"), looks := true }, kinds := [], alts := [], laidByText := true, laidKinds := [.handle], laidTests := true, laidLooks := .later }
def ParseStrategiesUptoCardSaid : Prop := Claim7.holds Tryz.pinned (.plain (OpenSpec.upto parseStrategiesSpec)) parseStrategiesUptoCard

/-- THE SECOND FORM's CARD OF 'tripwirelaw13.ParseExprs'. -/
def parseExprsUptoCard : Claim7 := { stood := { row := parseExprsUptoRow, standIns := [], harness := (true, "9abeb16d8adb9a1320dcc905a9192c230b8dbeb117e6934aeee7d1c6e9696810"), looks := true }, kinds := [], alts := [], laidByText := true, laidKinds := [.handle], laidTests := true, laidLooks := .later }
def ParseExprsUptoCardSaid : Prop := Claim7.holds Tryz.pinned (.plain (OpenSpec.upto parseExprsSpec)) parseExprsUptoCard

/-- THE SECOND FORM's CARD OF 'tripwirelaw13.ParseChains'. -/
def parseChainsUptoCard : Claim7 := { stood := { row := parseChainsUptoRow, standIns := [], harness := (true, "9abeb16d8adb9a1320dcc905a9192c230b8dbeb117e6934aeee7d1c6e9696810"), looks := true }, kinds := [], alts := [], laidByText := true, laidKinds := [.handle], laidTests := true, laidLooks := .later }
def ParseChainsUptoCardSaid : Prop := Claim7.holds Tryz.pinned (.plain (OpenSpec.upto parseChainsSpec)) parseChainsUptoCard

/-- THE SECOND FORM's CARD OF 'tripwirelaw13.ParseSound'. -/
def parseSoundUptoCard : Claim7 := { stood := { row := parseSoundUptoRow, standIns := [], harness := (true, "9abeb16d8adb9a1320dcc905a9192c230b8dbeb117e6934aeee7d1c6e9696810"), looks := true }, kinds := [], alts := [], laidByText := true, laidKinds := [.handle], laidTests := true, laidLooks := .later }
def ParseSoundUptoCardSaid : Prop := Claim7.holds Tryz.pinned (.plain (OpenSpec.upto parseSoundSpec)) parseSoundUptoCard

/-- THE SECOND FORM's CARD OF 'tripwirelaw13.ParseSpaced'. -/
def parseSpacedUptoCard : Claim7 := { stood := { row := parseSpacedUptoRow, standIns := [], harness := (true, "9abeb16d8adb9a1320dcc905a9192c230b8dbeb117e6934aeee7d1c6e9696810"), looks := true }, kinds := [], alts := [], laidByText := true, laidKinds := [.handle], laidTests := true, laidLooks := .later }
def ParseSpacedUptoCardSaid : Prop := Claim7.holds Tryz.pinned (.plain (OpenSpec.upto parseSpacedSpec)) parseSpacedUptoCard

/-- THE SECOND FORM's CARD OF 'tripwirelaw16.CostExprs'. -/
def costExprsUptoCard : Claim7 := { stood := { row := costExprsUptoRow, standIns := [], harness := (true, "9abeb16d8adb9a1320dcc905a9192c230b8dbeb117e6934aeee7d1c6e9696810"), looks := true }, kinds := [], alts := [], laidByText := true, laidKinds := [.handle], laidTests := true, laidLooks := .later }
def CostExprsUptoCardSaid : Prop := Claim7.holds Tryz.pinned (.plain (OpenSpec.upto costExprsSpec)) costExprsUptoCard

/-- THE SECOND FORM's CARD OF 'tripwirelaw16.CostParts'. -/
def costPartsUptoCard : Claim7 := { stood := { row := costPartsUptoRow, standIns := [], harness := (true, "9abeb16d8adb9a1320dcc905a9192c230b8dbeb117e6934aeee7d1c6e9696810"), looks := true }, kinds := [], alts := [], laidByText := true, laidKinds := [.handle], laidTests := true, laidLooks := .later }
def CostPartsUptoCardSaid : Prop := Claim7.holds Tryz.pinned (.plain (OpenSpec.upto costPartsSpec)) costPartsUptoCard

/-- THE SECOND FORM's CARD OF 'tripwirelaw16.CostSizes'. -/
def costSizesUptoCard : Claim7 := { stood := { row := costSizesUptoRow, standIns := [], harness := (true, "9abeb16d8adb9a1320dcc905a9192c230b8dbeb117e6934aeee7d1c6e9696810"), looks := true }, kinds := [], alts := [], laidByText := true, laidKinds := [.handle], laidTests := true, laidLooks := .later }
def CostSizesUptoCardSaid : Prop := Claim7.holds Tryz.pinned (.plain (OpenSpec.upto costSizesSpec)) costSizesUptoCard

/-- THE SECOND FORM's CARD OF 'tripwirelaw13.ParseWraps'. -/
def parseWrapsUptoCard : Claim7 := { stood := { row := parseWrapsUptoRow, standIns := [], harness := (true, "9abeb16d8adb9a1320dcc905a9192c230b8dbeb117e6934aeee7d1c6e9696810"), looks := true }, kinds := [], alts := [], laidByText := true, laidKinds := [.handle], laidTests := true, laidLooks := .later }
def ParseWrapsUptoCardSaid : Prop := Claim7.holds Tryz.pinned (.plain (OpenSpec.upto parseWrapsSpec)) parseWrapsUptoCard

/-- THE SECOND FORM's CARD OF 'tripwirelaw16.CostStates'. -/
def costStatesUptoCard : Claim7 := { stood := { row := costStatesUptoRow, standIns := [], harness := (true, "9abeb16d8adb9a1320dcc905a9192c230b8dbeb117e6934aeee7d1c6e9696810"), looks := true }, kinds := [], alts := [], laidByText := true, laidKinds := [.handle], laidTests := true, laidLooks := .later }
def CostStatesUptoCardSaid : Prop := Claim7.holds Tryz.pinned (.plain (OpenSpec.upto costStatesSpec)) costStatesUptoCard

/-- THE SECOND FORM's CARD OF 'tripwirelaw16.CostStrategies'. -/
def costStrategiesUptoCard : Claim7 := { stood := { row := costStrategiesUptoRow, standIns := [], harness := (true, "9abeb16d8adb9a1320dcc905a9192c230b8dbeb117e6934aeee7d1c6e9696810"), looks := true }, kinds := [], alts := [], laidByText := true, laidKinds := [.handle], laidTests := true, laidLooks := .later }
def CostStrategiesUptoCardSaid : Prop := Claim7.holds Tryz.pinned (.plain (OpenSpec.upto costStrategiesSpec)) costStrategiesUptoCard
end Rows
end Go.Proofs.YtknocbhocdenoaaGreatDoor
