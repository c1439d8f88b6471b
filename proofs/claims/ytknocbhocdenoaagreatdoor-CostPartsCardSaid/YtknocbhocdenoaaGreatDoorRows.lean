/-
  NARROWER THAN 'FOR EVERY INPUT', by the rows' own cells (each row's printed sentence says how): TypesChecks: loops, laid · TypesTexts: laid · TypesOfs: loops, laid · TypesChains: loops, laid · TypesParts: loops, laid · TypesNames: loops, laid · TypesTwice: loops, laid · ParseStrategies: laid · ParseExprs: laid · ParseChains: laid · ParseSound: laid · ParseSpaced: laid · CostExprs: loops, laid · CostParts: loops, laid · CostSizes: loops, laid · ParseWraps: laid · CostStates: loops, laid · CostStrategies: loops, laid.
  DERIVED. THE GIVEN ROWS OF THIS SEAT. 18 by the template 'for every input the law returns true; each argument reads behind the call as it read before'; 0 by the template 'total and deterministic' (their statements: YtknocbhocdenoaaGreatDoorTotals.lean).
  GIVEN WITH THE SEED: the statements are not yours to turn. If you find one false, say at which input.
  Laid BY PROGRAM, IN A SANDBOX (cutbox-rows.mjs): the forced cells as the released guide's own fill.sh prints them over the translation 488c3c08ecb2428c… (all of the seat's roots in one cut). By AI agents, Wed Nov 11 2026. No macro, syntax, notation, axiom, sorry.
-/
import Derived.Test.YtknocbhocdenoaaGreatDoorChecked
import GoSem.Claim
import GoSem.ClaimJoined
import GoSem.ClaimMapViews
import Derived.JoinedTies
import Derived.KernelRfl
namespace Go.Proofs.YtknocbhocdenoaaGreatDoor
/- THE CELL 'sum', in the pinned program and in every row, IS THE sha256 OF THE DUMP (.gsa) THAT YtknocbhocdenoaaGreatDoorProg.lean LOADS. Nothing in Lean hashes anything: it is a label: what it is worth is what the hold of that sum in a sandbox is worth. -/
noncomputable def Tryz.pinned : Pinned := { name := "ytknocbhocdenoaagreatdoor", sum := "488c3c08ecb2428c8004ed42e98b9c54edbe4b28fdd61eeae4a886bcc1093707", checked := Tryz.checked }
namespace Rows
def none {H : Type} : Left H := { results := [], args := [] }

/- WHAT THE LISTED PACKAGE-LEVEL VARIABLES READ AS WHEN THE CALL BEGINS. Each datum BY PROGRAM (the guide's laid-datum.mjs) off the statement by which the dump's own 'gosem.cut.vars' lays the variable. In a bare row this is a premise. The card (YtknocbhocdenoaaGreatDoorCards.lean) ties it to the program's text. -/
def laid_errors_errorType {H : Type} : DataW H := .iface "internal/reflectlite.rtype" (.agg [.ptr (.lit (.string [101, 114, 114, 111, 114]))])

/-- 'tripwirelaw15.TypesChecks': WHATEVER THE INPUT: true; the input reads as it did. -/
def typesChecksSpec : ChangeSpec := { name := "typesChecks", fn := fun _ => fun
  | [d] => { results := [.lit (.bool true)], args := [d] }
  | _ => none }
def typesChecksRow : OpenClaim := { program := "ytknocbhocdenoaagreatdoor", sum := "488c3c08ecb2428c8004ed42e98b9c54edbe4b28fdd61eeae4a886bcc1093707", func := "tripwire/tripwirelaw15.TypesChecks", spec := "typesChecks", inPlace := ["internal/reflectlite.ValueOf", "(internal/reflectlite.Value).Type", "(internal/reflectlite.Value).IsNil", "internal/reflectlite.TypeOf", "(internal/reflectlite.Value).Elem", "(internal/reflectlite.Value).Set"], unfollowed := true, recurses := true, named := ["errors.errorType"], loops := true, apart := false, laid := [("errors.errorType", laid_errors_errorType)] }
def TypesChecksSaid : Prop := typesChecksRow.holds Tryz.pinned (OpenSpec.ofChange typesChecksSpec)

/-- ITS FALSE NEIGHBOUR: 'it returns false'. Refute it at one input. -/
def typesChecksWrong : ChangeSpec := { name := "typesChecks", fn := fun _ => fun
  | [d] => { results := [.lit (.bool false)], args := [d] }
  | _ => none }
def TypesChecksWrongFalsely : Prop := typesChecksRow.holds Tryz.pinned (OpenSpec.ofChange typesChecksWrong)

/-- 'tripwirelaw15.TypesTexts': WHATEVER THE INPUT: true; the input reads as it did. -/
def typesTextsSpec : ChangeSpec := { name := "typesTexts", fn := fun _ => fun
  | [d] => { results := [.lit (.bool true)], args := [d] }
  | _ => none }
def typesTextsRow : OpenClaim := { program := "ytknocbhocdenoaagreatdoor", sum := "488c3c08ecb2428c8004ed42e98b9c54edbe4b28fdd61eeae4a886bcc1093707", func := "tripwire/tripwirelaw15.TypesTexts", spec := "typesTexts", inPlace := ["internal/reflectlite.ValueOf", "(internal/reflectlite.Value).Type", "(internal/reflectlite.Value).IsNil", "internal/reflectlite.TypeOf", "(internal/reflectlite.Value).Elem", "(internal/reflectlite.Value).Set"], unfollowed := true, recurses := true, named := ["errors.errorType"], apart := false, laid := [("errors.errorType", laid_errors_errorType)] }
def TypesTextsSaid : Prop := typesTextsRow.holds Tryz.pinned (OpenSpec.ofChange typesTextsSpec)

/-- ITS FALSE NEIGHBOUR: 'it returns false'. Refute it at one input. -/
def typesTextsWrong : ChangeSpec := { name := "typesTexts", fn := fun _ => fun
  | [d] => { results := [.lit (.bool false)], args := [d] }
  | _ => none }
def TypesTextsWrongFalsely : Prop := typesTextsRow.holds Tryz.pinned (OpenSpec.ofChange typesTextsWrong)

/-- 'tripwirelaw15.TypesOfs': WHATEVER THE INPUT: true; the input reads as it did. -/
def typesOfsSpec : ChangeSpec := { name := "typesOfs", fn := fun _ => fun
  | [d1, d2] => { results := [.lit (.bool true)], args := [d1, d2] }
  | _ => none }
def typesOfsRow : OpenClaim := { program := "ytknocbhocdenoaagreatdoor", sum := "488c3c08ecb2428c8004ed42e98b9c54edbe4b28fdd61eeae4a886bcc1093707", func := "tripwire/tripwirelaw15.TypesOfs", spec := "typesOfs", inPlace := ["internal/reflectlite.ValueOf", "(internal/reflectlite.Value).Type", "(internal/reflectlite.Value).IsNil", "internal/reflectlite.TypeOf", "(internal/reflectlite.Value).Elem", "(internal/reflectlite.Value).Set"], unfollowed := true, recurses := true, named := ["errors.errorType"], loops := true, apart := false, laid := [("errors.errorType", laid_errors_errorType)] }
def TypesOfsSaid : Prop := typesOfsRow.holds Tryz.pinned (OpenSpec.ofChange typesOfsSpec)

/-- ITS FALSE NEIGHBOUR: 'it returns false'. Refute it at one input. -/
def typesOfsWrong : ChangeSpec := { name := "typesOfs", fn := fun _ => fun
  | [d1, d2] => { results := [.lit (.bool false)], args := [d1, d2] }
  | _ => none }
def TypesOfsWrongFalsely : Prop := typesOfsRow.holds Tryz.pinned (OpenSpec.ofChange typesOfsWrong)

/-- 'tripwirelaw15.TypesChains': WHATEVER THE INPUT: true; the input reads as it did. -/
def typesChainsSpec : ChangeSpec := { name := "typesChains", fn := fun _ => fun
  | [d] => { results := [.lit (.bool true)], args := [d] }
  | _ => none }
def typesChainsRow : OpenClaim := { program := "ytknocbhocdenoaagreatdoor", sum := "488c3c08ecb2428c8004ed42e98b9c54edbe4b28fdd61eeae4a886bcc1093707", func := "tripwire/tripwirelaw15.TypesChains", spec := "typesChains", inPlace := ["internal/reflectlite.ValueOf", "(internal/reflectlite.Value).Type", "(internal/reflectlite.Value).IsNil", "internal/reflectlite.TypeOf", "(internal/reflectlite.Value).Elem", "(internal/reflectlite.Value).Set"], unfollowed := true, recurses := true, named := ["errors.errorType"], loops := true, apart := false, laid := [("errors.errorType", laid_errors_errorType)] }
def TypesChainsSaid : Prop := typesChainsRow.holds Tryz.pinned (OpenSpec.ofChange typesChainsSpec)

/-- ITS FALSE NEIGHBOUR: 'it returns false'. Refute it at one input. -/
def typesChainsWrong : ChangeSpec := { name := "typesChains", fn := fun _ => fun
  | [d] => { results := [.lit (.bool false)], args := [d] }
  | _ => none }
def TypesChainsWrongFalsely : Prop := typesChainsRow.holds Tryz.pinned (OpenSpec.ofChange typesChainsWrong)

/-- 'tripwirelaw15.TypesParts': WHATEVER THE INPUT: true; the input reads as it did. -/
def typesPartsSpec : ChangeSpec := { name := "typesParts", fn := fun _ => fun
  | [d1, d2, d3, d4] => { results := [.lit (.bool true)], args := [d1, d2, d3, d4] }
  | _ => none }
def typesPartsRow : OpenClaim := { program := "ytknocbhocdenoaagreatdoor", sum := "488c3c08ecb2428c8004ed42e98b9c54edbe4b28fdd61eeae4a886bcc1093707", func := "tripwire/tripwirelaw15.TypesParts", spec := "typesParts", inPlace := ["internal/reflectlite.ValueOf", "(internal/reflectlite.Value).Type", "(internal/reflectlite.Value).IsNil", "internal/reflectlite.TypeOf", "(internal/reflectlite.Value).Elem", "(internal/reflectlite.Value).Set"], unfollowed := true, recurses := true, named := ["errors.errorType"], loops := true, apart := false, laid := [("errors.errorType", laid_errors_errorType)] }
def TypesPartsSaid : Prop := typesPartsRow.holds Tryz.pinned (OpenSpec.ofChange typesPartsSpec)

/-- ITS FALSE NEIGHBOUR: 'it returns false'. Refute it at one input. -/
def typesPartsWrong : ChangeSpec := { name := "typesParts", fn := fun _ => fun
  | [d1, d2, d3, d4] => { results := [.lit (.bool false)], args := [d1, d2, d3, d4] }
  | _ => none }
def TypesPartsWrongFalsely : Prop := typesPartsRow.holds Tryz.pinned (OpenSpec.ofChange typesPartsWrong)

/-- 'tripwirelaw15.TypesNames': WHATEVER THE INPUT: true; the input reads as it did. -/
def typesNamesSpec : ChangeSpec := { name := "typesNames", fn := fun _ => fun
  | [d1, d2] => { results := [.lit (.bool true)], args := [d1, d2] }
  | _ => none }
def typesNamesRow : OpenClaim := { program := "ytknocbhocdenoaagreatdoor", sum := "488c3c08ecb2428c8004ed42e98b9c54edbe4b28fdd61eeae4a886bcc1093707", func := "tripwire/tripwirelaw15.TypesNames", spec := "typesNames", inPlace := ["internal/reflectlite.ValueOf", "(internal/reflectlite.Value).Type", "(internal/reflectlite.Value).IsNil", "internal/reflectlite.TypeOf", "(internal/reflectlite.Value).Elem", "(internal/reflectlite.Value).Set"], unfollowed := true, recurses := true, named := ["errors.errorType"], loops := true, apart := false, laid := [("errors.errorType", laid_errors_errorType)] }
def TypesNamesSaid : Prop := typesNamesRow.holds Tryz.pinned (OpenSpec.ofChange typesNamesSpec)

/-- ITS FALSE NEIGHBOUR: 'it returns false'. Refute it at one input. -/
def typesNamesWrong : ChangeSpec := { name := "typesNames", fn := fun _ => fun
  | [d1, d2] => { results := [.lit (.bool false)], args := [d1, d2] }
  | _ => none }
def TypesNamesWrongFalsely : Prop := typesNamesRow.holds Tryz.pinned (OpenSpec.ofChange typesNamesWrong)

/-- 'tripwirelaw15.TypesTwice': WHATEVER THE INPUT: true; the input reads as it did. -/
def typesTwiceSpec : ChangeSpec := { name := "typesTwice", fn := fun _ => fun
  | [d1, d2, d3] => { results := [.lit (.bool true)], args := [d1, d2, d3] }
  | _ => none }
def typesTwiceRow : OpenClaim := { program := "ytknocbhocdenoaagreatdoor", sum := "488c3c08ecb2428c8004ed42e98b9c54edbe4b28fdd61eeae4a886bcc1093707", func := "tripwire/tripwirelaw15.TypesTwice", spec := "typesTwice", inPlace := ["internal/reflectlite.ValueOf", "(internal/reflectlite.Value).Type", "(internal/reflectlite.Value).IsNil", "internal/reflectlite.TypeOf", "(internal/reflectlite.Value).Elem", "(internal/reflectlite.Value).Set"], unfollowed := true, recurses := true, named := ["errors.errorType"], loops := true, apart := false, laid := [("errors.errorType", laid_errors_errorType)] }
def TypesTwiceSaid : Prop := typesTwiceRow.holds Tryz.pinned (OpenSpec.ofChange typesTwiceSpec)

/-- ITS FALSE NEIGHBOUR: 'it returns false'. Refute it at one input. -/
def typesTwiceWrong : ChangeSpec := { name := "typesTwice", fn := fun _ => fun
  | [d1, d2, d3] => { results := [.lit (.bool false)], args := [d1, d2, d3] }
  | _ => none }
def TypesTwiceWrongFalsely : Prop := typesTwiceRow.holds Tryz.pinned (OpenSpec.ofChange typesTwiceWrong)

/-- 'tripwirelaw13.ParseStrategies': WHATEVER THE INPUT: true; the input reads as it did. -/
def parseStrategiesSpec : ChangeSpec := { name := "parseStrategies", fn := fun _ => fun
  | [d1, d2] => { results := [.lit (.bool true)], args := [d1, d2] }
  | _ => none }
def parseStrategiesRow : OpenClaim := { program := "ytknocbhocdenoaagreatdoor", sum := "488c3c08ecb2428c8004ed42e98b9c54edbe4b28fdd61eeae4a886bcc1093707", func := "tripwire/tripwirelaw13.ParseStrategies", spec := "parseStrategies", inPlace := ["internal/reflectlite.ValueOf", "(internal/reflectlite.Value).Type", "(internal/reflectlite.Value).IsNil", "internal/reflectlite.TypeOf", "(internal/reflectlite.Value).Elem", "(internal/reflectlite.Value).Set"], unfollowed := true, recurses := true, named := ["errors.errorType"], apart := false, laid := [("errors.errorType", laid_errors_errorType)] }
def ParseStrategiesSaid : Prop := parseStrategiesRow.holds Tryz.pinned (OpenSpec.ofChange parseStrategiesSpec)

/-- ITS FALSE NEIGHBOUR: 'it returns false'. Refute it at one input. -/
def parseStrategiesWrong : ChangeSpec := { name := "parseStrategies", fn := fun _ => fun
  | [d1, d2] => { results := [.lit (.bool false)], args := [d1, d2] }
  | _ => none }
def ParseStrategiesWrongFalsely : Prop := parseStrategiesRow.holds Tryz.pinned (OpenSpec.ofChange parseStrategiesWrong)

/-- 'tripwirelaw13.ParseExprs': WHATEVER THE INPUT: true; the input reads as it did. -/
def parseExprsSpec : ChangeSpec := { name := "parseExprs", fn := fun _ => fun
  | [d1, d2] => { results := [.lit (.bool true)], args := [d1, d2] }
  | _ => none }
def parseExprsRow : OpenClaim := { program := "ytknocbhocdenoaagreatdoor", sum := "488c3c08ecb2428c8004ed42e98b9c54edbe4b28fdd61eeae4a886bcc1093707", func := "tripwire/tripwirelaw13.ParseExprs", spec := "parseExprs", inPlace := ["internal/reflectlite.ValueOf", "(internal/reflectlite.Value).Type", "(internal/reflectlite.Value).IsNil", "internal/reflectlite.TypeOf", "(internal/reflectlite.Value).Elem", "(internal/reflectlite.Value).Set"], unfollowed := true, recurses := true, named := ["errors.errorType"], apart := false, laid := [("errors.errorType", laid_errors_errorType)] }
def ParseExprsSaid : Prop := parseExprsRow.holds Tryz.pinned (OpenSpec.ofChange parseExprsSpec)

/-- ITS FALSE NEIGHBOUR: 'it returns false'. Refute it at one input. -/
def parseExprsWrong : ChangeSpec := { name := "parseExprs", fn := fun _ => fun
  | [d1, d2] => { results := [.lit (.bool false)], args := [d1, d2] }
  | _ => none }
def ParseExprsWrongFalsely : Prop := parseExprsRow.holds Tryz.pinned (OpenSpec.ofChange parseExprsWrong)

/-- 'tripwirelaw13.ParseChains': WHATEVER THE INPUT: true; the input reads as it did. -/
def parseChainsSpec : ChangeSpec := { name := "parseChains", fn := fun _ => fun
  | [d] => { results := [.lit (.bool true)], args := [d] }
  | _ => none }
def parseChainsRow : OpenClaim := { program := "ytknocbhocdenoaagreatdoor", sum := "488c3c08ecb2428c8004ed42e98b9c54edbe4b28fdd61eeae4a886bcc1093707", func := "tripwire/tripwirelaw13.ParseChains", spec := "parseChains", inPlace := ["internal/reflectlite.ValueOf", "(internal/reflectlite.Value).Type", "(internal/reflectlite.Value).IsNil", "internal/reflectlite.TypeOf", "(internal/reflectlite.Value).Elem", "(internal/reflectlite.Value).Set"], unfollowed := true, recurses := true, named := ["errors.errorType"], apart := false, laid := [("errors.errorType", laid_errors_errorType)] }
def ParseChainsSaid : Prop := parseChainsRow.holds Tryz.pinned (OpenSpec.ofChange parseChainsSpec)

/-- ITS FALSE NEIGHBOUR: 'it returns false'. Refute it at one input. -/
def parseChainsWrong : ChangeSpec := { name := "parseChains", fn := fun _ => fun
  | [d] => { results := [.lit (.bool false)], args := [d] }
  | _ => none }
def ParseChainsWrongFalsely : Prop := parseChainsRow.holds Tryz.pinned (OpenSpec.ofChange parseChainsWrong)

/-- 'tripwirelaw13.ParseSound': WHATEVER THE INPUT: true; the input reads as it did. -/
def parseSoundSpec : ChangeSpec := { name := "parseSound", fn := fun _ => fun
  | [d1, d2] => { results := [.lit (.bool true)], args := [d1, d2] }
  | _ => none }
def parseSoundRow : OpenClaim := { program := "ytknocbhocdenoaagreatdoor", sum := "488c3c08ecb2428c8004ed42e98b9c54edbe4b28fdd61eeae4a886bcc1093707", func := "tripwire/tripwirelaw13.ParseSound", spec := "parseSound", inPlace := ["internal/reflectlite.ValueOf", "(internal/reflectlite.Value).Type", "(internal/reflectlite.Value).IsNil", "internal/reflectlite.TypeOf", "(internal/reflectlite.Value).Elem", "(internal/reflectlite.Value).Set"], unfollowed := true, recurses := true, named := ["errors.errorType"], apart := false, laid := [("errors.errorType", laid_errors_errorType)] }
def ParseSoundSaid : Prop := parseSoundRow.holds Tryz.pinned (OpenSpec.ofChange parseSoundSpec)

/-- ITS FALSE NEIGHBOUR: 'it returns false'. Refute it at one input. -/
def parseSoundWrong : ChangeSpec := { name := "parseSound", fn := fun _ => fun
  | [d1, d2] => { results := [.lit (.bool false)], args := [d1, d2] }
  | _ => none }
def ParseSoundWrongFalsely : Prop := parseSoundRow.holds Tryz.pinned (OpenSpec.ofChange parseSoundWrong)

/-- 'tripwirelaw13.ParseSpaced': WHATEVER THE INPUT: true; the input reads as it did. -/
def parseSpacedSpec : ChangeSpec := { name := "parseSpaced", fn := fun _ => fun
  | [d1, d2] => { results := [.lit (.bool true)], args := [d1, d2] }
  | _ => none }
def parseSpacedRow : OpenClaim := { program := "ytknocbhocdenoaagreatdoor", sum := "488c3c08ecb2428c8004ed42e98b9c54edbe4b28fdd61eeae4a886bcc1093707", func := "tripwire/tripwirelaw13.ParseSpaced", spec := "parseSpaced", inPlace := ["internal/reflectlite.ValueOf", "(internal/reflectlite.Value).Type", "(internal/reflectlite.Value).IsNil", "internal/reflectlite.TypeOf", "(internal/reflectlite.Value).Elem", "(internal/reflectlite.Value).Set"], unfollowed := true, recurses := true, named := ["errors.errorType"], apart := false, laid := [("errors.errorType", laid_errors_errorType)] }
def ParseSpacedSaid : Prop := parseSpacedRow.holds Tryz.pinned (OpenSpec.ofChange parseSpacedSpec)

/-- ITS FALSE NEIGHBOUR: 'it returns false'. Refute it at one input. -/
def parseSpacedWrong : ChangeSpec := { name := "parseSpaced", fn := fun _ => fun
  | [d1, d2] => { results := [.lit (.bool false)], args := [d1, d2] }
  | _ => none }
def ParseSpacedWrongFalsely : Prop := parseSpacedRow.holds Tryz.pinned (OpenSpec.ofChange parseSpacedWrong)

/-- 'tripwirelaw16.CostExprs': WHATEVER THE INPUT: true; the input reads as it did. -/
def costExprsSpec : ChangeSpec := { name := "costExprs", fn := fun _ => fun
  | [d] => { results := [.lit (.bool true)], args := [d] }
  | _ => none }
def costExprsRow : OpenClaim := { program := "ytknocbhocdenoaagreatdoor", sum := "488c3c08ecb2428c8004ed42e98b9c54edbe4b28fdd61eeae4a886bcc1093707", func := "tripwire/tripwirelaw16.CostExprs", spec := "costExprs", inPlace := ["internal/reflectlite.ValueOf", "(internal/reflectlite.Value).Type", "(internal/reflectlite.Value).IsNil", "internal/reflectlite.TypeOf", "(internal/reflectlite.Value).Elem", "(internal/reflectlite.Value).Set"], unfollowed := true, recurses := true, named := ["errors.errorType"], loops := true, apart := false, laid := [("errors.errorType", laid_errors_errorType)] }
def CostExprsSaid : Prop := costExprsRow.holds Tryz.pinned (OpenSpec.ofChange costExprsSpec)

/-- ITS FALSE NEIGHBOUR: 'it returns false'. Refute it at one input. -/
def costExprsWrong : ChangeSpec := { name := "costExprs", fn := fun _ => fun
  | [d] => { results := [.lit (.bool false)], args := [d] }
  | _ => none }
def CostExprsWrongFalsely : Prop := costExprsRow.holds Tryz.pinned (OpenSpec.ofChange costExprsWrong)

/-- 'tripwirelaw16.CostParts': WHATEVER THE INPUT: true; the input reads as it did. -/
def costPartsSpec : ChangeSpec := { name := "costParts", fn := fun _ => fun
  | [d1, d2, d3] => { results := [.lit (.bool true)], args := [d1, d2, d3] }
  | _ => none }
def costPartsRow : OpenClaim := { program := "ytknocbhocdenoaagreatdoor", sum := "488c3c08ecb2428c8004ed42e98b9c54edbe4b28fdd61eeae4a886bcc1093707", func := "tripwire/tripwirelaw16.CostParts", spec := "costParts", inPlace := ["internal/reflectlite.ValueOf", "(internal/reflectlite.Value).Type", "(internal/reflectlite.Value).IsNil", "internal/reflectlite.TypeOf", "(internal/reflectlite.Value).Elem", "(internal/reflectlite.Value).Set"], unfollowed := true, recurses := true, named := ["errors.errorType"], loops := true, apart := false, laid := [("errors.errorType", laid_errors_errorType)] }
def CostPartsSaid : Prop := costPartsRow.holds Tryz.pinned (OpenSpec.ofChange costPartsSpec)

/-- ITS FALSE NEIGHBOUR: 'it returns false'. Refute it at one input. -/
def costPartsWrong : ChangeSpec := { name := "costParts", fn := fun _ => fun
  | [d1, d2, d3] => { results := [.lit (.bool false)], args := [d1, d2, d3] }
  | _ => none }
def CostPartsWrongFalsely : Prop := costPartsRow.holds Tryz.pinned (OpenSpec.ofChange costPartsWrong)

/-- 'tripwirelaw16.CostSizes': WHATEVER THE INPUT: true; the input reads as it did. -/
def costSizesSpec : ChangeSpec := { name := "costSizes", fn := fun _ => fun
  | [d] => { results := [.lit (.bool true)], args := [d] }
  | _ => none }
def costSizesRow : OpenClaim := { program := "ytknocbhocdenoaagreatdoor", sum := "488c3c08ecb2428c8004ed42e98b9c54edbe4b28fdd61eeae4a886bcc1093707", func := "tripwire/tripwirelaw16.CostSizes", spec := "costSizes", inPlace := ["internal/reflectlite.ValueOf", "(internal/reflectlite.Value).Type", "(internal/reflectlite.Value).IsNil", "internal/reflectlite.TypeOf", "(internal/reflectlite.Value).Elem", "(internal/reflectlite.Value).Set"], unfollowed := true, recurses := true, named := ["errors.errorType"], loops := true, apart := false, laid := [("errors.errorType", laid_errors_errorType)] }
def CostSizesSaid : Prop := costSizesRow.holds Tryz.pinned (OpenSpec.ofChange costSizesSpec)

/-- ITS FALSE NEIGHBOUR: 'it returns false'. Refute it at one input. -/
def costSizesWrong : ChangeSpec := { name := "costSizes", fn := fun _ => fun
  | [d] => { results := [.lit (.bool false)], args := [d] }
  | _ => none }
def CostSizesWrongFalsely : Prop := costSizesRow.holds Tryz.pinned (OpenSpec.ofChange costSizesWrong)

/-- 'tripwirelaw13.ParseWraps': WHATEVER THE INPUT: true; the input reads as it did. -/
def parseWrapsSpec : ChangeSpec := { name := "parseWraps", fn := fun _ => fun
  | [d] => { results := [.lit (.bool true)], args := [d] }
  | _ => none }
def parseWrapsRow : OpenClaim := { program := "ytknocbhocdenoaagreatdoor", sum := "488c3c08ecb2428c8004ed42e98b9c54edbe4b28fdd61eeae4a886bcc1093707", func := "tripwire/tripwirelaw13.ParseWraps", spec := "parseWraps", inPlace := ["internal/reflectlite.ValueOf", "(internal/reflectlite.Value).Type", "(internal/reflectlite.Value).IsNil", "internal/reflectlite.TypeOf", "(internal/reflectlite.Value).Elem", "(internal/reflectlite.Value).Set"], unfollowed := true, recurses := true, named := ["errors.errorType"], apart := false, laid := [("errors.errorType", laid_errors_errorType)] }
def ParseWrapsSaid : Prop := parseWrapsRow.holds Tryz.pinned (OpenSpec.ofChange parseWrapsSpec)

/-- ITS FALSE NEIGHBOUR: 'it returns false'. Refute it at one input. -/
def parseWrapsWrong : ChangeSpec := { name := "parseWraps", fn := fun _ => fun
  | [d] => { results := [.lit (.bool false)], args := [d] }
  | _ => none }
def ParseWrapsWrongFalsely : Prop := parseWrapsRow.holds Tryz.pinned (OpenSpec.ofChange parseWrapsWrong)

/-- 'tripwirelaw16.CostStates': WHATEVER THE INPUT: true; the input reads as it did. -/
def costStatesSpec : ChangeSpec := { name := "costStates", fn := fun _ => fun
  | [d] => { results := [.lit (.bool true)], args := [d] }
  | _ => none }
def costStatesRow : OpenClaim := { program := "ytknocbhocdenoaagreatdoor", sum := "488c3c08ecb2428c8004ed42e98b9c54edbe4b28fdd61eeae4a886bcc1093707", func := "tripwire/tripwirelaw16.CostStates", spec := "costStates", inPlace := ["internal/reflectlite.ValueOf", "(internal/reflectlite.Value).Type", "(internal/reflectlite.Value).IsNil", "internal/reflectlite.TypeOf", "(internal/reflectlite.Value).Elem", "(internal/reflectlite.Value).Set"], unfollowed := true, recurses := true, named := ["errors.errorType"], loops := true, apart := false, laid := [("errors.errorType", laid_errors_errorType)] }
def CostStatesSaid : Prop := costStatesRow.holds Tryz.pinned (OpenSpec.ofChange costStatesSpec)

/-- ITS FALSE NEIGHBOUR: 'it returns false'. Refute it at one input. -/
def costStatesWrong : ChangeSpec := { name := "costStates", fn := fun _ => fun
  | [d] => { results := [.lit (.bool false)], args := [d] }
  | _ => none }
def CostStatesWrongFalsely : Prop := costStatesRow.holds Tryz.pinned (OpenSpec.ofChange costStatesWrong)

/-- 'tripwirelaw16.CostStrategies': WHATEVER THE INPUT: true; the input reads as it did. -/
def costStrategiesSpec : ChangeSpec := { name := "costStrategies", fn := fun _ => fun
  | [d] => { results := [.lit (.bool true)], args := [d] }
  | _ => none }
def costStrategiesRow : OpenClaim := { program := "ytknocbhocdenoaagreatdoor", sum := "488c3c08ecb2428c8004ed42e98b9c54edbe4b28fdd61eeae4a886bcc1093707", func := "tripwire/tripwirelaw16.CostStrategies", spec := "costStrategies", inPlace := ["internal/reflectlite.ValueOf", "(internal/reflectlite.Value).Type", "(internal/reflectlite.Value).IsNil", "internal/reflectlite.TypeOf", "(internal/reflectlite.Value).Elem", "(internal/reflectlite.Value).Set"], unfollowed := true, recurses := true, named := ["errors.errorType"], loops := true, apart := false, laid := [("errors.errorType", laid_errors_errorType)] }
def CostStrategiesSaid : Prop := costStrategiesRow.holds Tryz.pinned (OpenSpec.ofChange costStrategiesSpec)

/-- ITS FALSE NEIGHBOUR: 'it returns false'. Refute it at one input. -/
def costStrategiesWrong : ChangeSpec := { name := "costStrategies", fn := fun _ => fun
  | [d] => { results := [.lit (.bool false)], args := [d] }
  | _ => none }
def CostStrategiesWrongFalsely : Prop := costStrategiesRow.holds Tryz.pinned (OpenSpec.ofChange costStrategiesWrong)

/- THE SECOND FORM. 'bulk': how many values and letters a reading holds, each counted each time it is reached (what is shared counts as often as it is met; a slice's spare places count too). A statement '..UptoSaid' is the law's where the arguments, and the package variables that the reading takes, are together of bulk at most 1048576: NARROWER than '..Said'. Prove '..Said' where nothing that the law and all that it calls make is longer than what came in: it says more and counts as full. Else prove '..UptoSaid'. A law counts once. -/
mutual
def uptoBulk {H : Type} : DataW H → Nat
  | .lit (.string bytes) => bytes.length + 1
  | .lit _ => 1
  | .nil => 1
  | .ptr d => uptoBulk d + 1
  | .slice elems spare => uptoBulkAll elems + uptoBulkAll spare + 1
  | .agg parts => uptoBulkAll parts + 1
  | .iface _ d => uptoBulk d + 1
  | .map entries => uptoBulkEntries entries + 1
  | .held _ => 1
def uptoBulkAll {H : Type} : List (DataW H) → Nat
  | [] => 0
  | d :: r => uptoBulk d + uptoBulkAll r
def uptoBulkEntries {H : Type} : List (Lit × DataW H) → Nat
  | [] => 0
  | x :: r => uptoBulkEntry x + uptoBulkEntries r
def uptoBulkEntry {H : Type} : Lit × DataW H → Nat
  | (.string bytes, d) => bytes.length + uptoBulk d + 1
  | (_, d) => uptoBulk d + 1
 end
def uptoSmall : (H : Type) → List (DataW H) → Bool := fun _ ds => decide (uptoBulkAll ds ≤ 1048576)
def OpenSpec.upto (s : _root_.Go.ChangeSpec) : _root_.Go.OpenSpec := { _root_.Go.OpenSpec.ofChange s with cond := some uptoSmall }

/-- 'tripwirelaw15.TypesChecks', WHERE WHAT IT READS IS OF BULK AT MOST 1048576: true; the input reads as it did. -/
def typesChecksUptoRow : OpenClaim := { program := "ytknocbhocdenoaagreatdoor", sum := "488c3c08ecb2428c8004ed42e98b9c54edbe4b28fdd61eeae4a886bcc1093707", func := "tripwire/tripwirelaw15.TypesChecks", spec := "typesChecks", inPlace := ["internal/reflectlite.ValueOf", "(internal/reflectlite.Value).Type", "(internal/reflectlite.Value).IsNil", "internal/reflectlite.TypeOf", "(internal/reflectlite.Value).Elem", "(internal/reflectlite.Value).Set"], unfollowed := true, recurses := true, named := ["errors.errorType"], loops := true, apart := false, laid := [("errors.errorType", laid_errors_errorType)], narrowed := true }
def TypesChecksUptoSaid : Prop := typesChecksUptoRow.holds Tryz.pinned (OpenSpec.upto typesChecksSpec)

/-- 'tripwirelaw15.TypesTexts', WHERE WHAT IT READS IS OF BULK AT MOST 1048576: true; the input reads as it did. -/
def typesTextsUptoRow : OpenClaim := { program := "ytknocbhocdenoaagreatdoor", sum := "488c3c08ecb2428c8004ed42e98b9c54edbe4b28fdd61eeae4a886bcc1093707", func := "tripwire/tripwirelaw15.TypesTexts", spec := "typesTexts", inPlace := ["internal/reflectlite.ValueOf", "(internal/reflectlite.Value).Type", "(internal/reflectlite.Value).IsNil", "internal/reflectlite.TypeOf", "(internal/reflectlite.Value).Elem", "(internal/reflectlite.Value).Set"], unfollowed := true, recurses := true, named := ["errors.errorType"], apart := false, laid := [("errors.errorType", laid_errors_errorType)], narrowed := true }
def TypesTextsUptoSaid : Prop := typesTextsUptoRow.holds Tryz.pinned (OpenSpec.upto typesTextsSpec)

/-- 'tripwirelaw15.TypesOfs', WHERE WHAT IT READS IS OF BULK AT MOST 1048576: true; the input reads as it did. -/
def typesOfsUptoRow : OpenClaim := { program := "ytknocbhocdenoaagreatdoor", sum := "488c3c08ecb2428c8004ed42e98b9c54edbe4b28fdd61eeae4a886bcc1093707", func := "tripwire/tripwirelaw15.TypesOfs", spec := "typesOfs", inPlace := ["internal/reflectlite.ValueOf", "(internal/reflectlite.Value).Type", "(internal/reflectlite.Value).IsNil", "internal/reflectlite.TypeOf", "(internal/reflectlite.Value).Elem", "(internal/reflectlite.Value).Set"], unfollowed := true, recurses := true, named := ["errors.errorType"], loops := true, apart := false, laid := [("errors.errorType", laid_errors_errorType)], narrowed := true }
def TypesOfsUptoSaid : Prop := typesOfsUptoRow.holds Tryz.pinned (OpenSpec.upto typesOfsSpec)

/-- 'tripwirelaw15.TypesChains', WHERE WHAT IT READS IS OF BULK AT MOST 1048576: true; the input reads as it did. -/
def typesChainsUptoRow : OpenClaim := { program := "ytknocbhocdenoaagreatdoor", sum := "488c3c08ecb2428c8004ed42e98b9c54edbe4b28fdd61eeae4a886bcc1093707", func := "tripwire/tripwirelaw15.TypesChains", spec := "typesChains", inPlace := ["internal/reflectlite.ValueOf", "(internal/reflectlite.Value).Type", "(internal/reflectlite.Value).IsNil", "internal/reflectlite.TypeOf", "(internal/reflectlite.Value).Elem", "(internal/reflectlite.Value).Set"], unfollowed := true, recurses := true, named := ["errors.errorType"], loops := true, apart := false, laid := [("errors.errorType", laid_errors_errorType)], narrowed := true }
def TypesChainsUptoSaid : Prop := typesChainsUptoRow.holds Tryz.pinned (OpenSpec.upto typesChainsSpec)

/-- 'tripwirelaw15.TypesParts', WHERE WHAT IT READS IS OF BULK AT MOST 1048576: true; the input reads as it did. -/
def typesPartsUptoRow : OpenClaim := { program := "ytknocbhocdenoaagreatdoor", sum := "488c3c08ecb2428c8004ed42e98b9c54edbe4b28fdd61eeae4a886bcc1093707", func := "tripwire/tripwirelaw15.TypesParts", spec := "typesParts", inPlace := ["internal/reflectlite.ValueOf", "(internal/reflectlite.Value).Type", "(internal/reflectlite.Value).IsNil", "internal/reflectlite.TypeOf", "(internal/reflectlite.Value).Elem", "(internal/reflectlite.Value).Set"], unfollowed := true, recurses := true, named := ["errors.errorType"], loops := true, apart := false, laid := [("errors.errorType", laid_errors_errorType)], narrowed := true }
def TypesPartsUptoSaid : Prop := typesPartsUptoRow.holds Tryz.pinned (OpenSpec.upto typesPartsSpec)

/-- 'tripwirelaw15.TypesNames', WHERE WHAT IT READS IS OF BULK AT MOST 1048576: true; the input reads as it did. -/
def typesNamesUptoRow : OpenClaim := { program := "ytknocbhocdenoaagreatdoor", sum := "488c3c08ecb2428c8004ed42e98b9c54edbe4b28fdd61eeae4a886bcc1093707", func := "tripwire/tripwirelaw15.TypesNames", spec := "typesNames", inPlace := ["internal/reflectlite.ValueOf", "(internal/reflectlite.Value).Type", "(internal/reflectlite.Value).IsNil", "internal/reflectlite.TypeOf", "(internal/reflectlite.Value).Elem", "(internal/reflectlite.Value).Set"], unfollowed := true, recurses := true, named := ["errors.errorType"], loops := true, apart := false, laid := [("errors.errorType", laid_errors_errorType)], narrowed := true }
def TypesNamesUptoSaid : Prop := typesNamesUptoRow.holds Tryz.pinned (OpenSpec.upto typesNamesSpec)

/-- 'tripwirelaw15.TypesTwice', WHERE WHAT IT READS IS OF BULK AT MOST 1048576: true; the input reads as it did. -/
def typesTwiceUptoRow : OpenClaim := { program := "ytknocbhocdenoaagreatdoor", sum := "488c3c08ecb2428c8004ed42e98b9c54edbe4b28fdd61eeae4a886bcc1093707", func := "tripwire/tripwirelaw15.TypesTwice", spec := "typesTwice", inPlace := ["internal/reflectlite.ValueOf", "(internal/reflectlite.Value).Type", "(internal/reflectlite.Value).IsNil", "internal/reflectlite.TypeOf", "(internal/reflectlite.Value).Elem", "(internal/reflectlite.Value).Set"], unfollowed := true, recurses := true, named := ["errors.errorType"], loops := true, apart := false, laid := [("errors.errorType", laid_errors_errorType)], narrowed := true }
def TypesTwiceUptoSaid : Prop := typesTwiceUptoRow.holds Tryz.pinned (OpenSpec.upto typesTwiceSpec)

/-- 'tripwirelaw13.ParseStrategies', WHERE WHAT IT READS IS OF BULK AT MOST 1048576: true; the input reads as it did. -/
def parseStrategiesUptoRow : OpenClaim := { program := "ytknocbhocdenoaagreatdoor", sum := "488c3c08ecb2428c8004ed42e98b9c54edbe4b28fdd61eeae4a886bcc1093707", func := "tripwire/tripwirelaw13.ParseStrategies", spec := "parseStrategies", inPlace := ["internal/reflectlite.ValueOf", "(internal/reflectlite.Value).Type", "(internal/reflectlite.Value).IsNil", "internal/reflectlite.TypeOf", "(internal/reflectlite.Value).Elem", "(internal/reflectlite.Value).Set"], unfollowed := true, recurses := true, named := ["errors.errorType"], apart := false, laid := [("errors.errorType", laid_errors_errorType)], narrowed := true }
def ParseStrategiesUptoSaid : Prop := parseStrategiesUptoRow.holds Tryz.pinned (OpenSpec.upto parseStrategiesSpec)

/-- 'tripwirelaw13.ParseExprs', WHERE WHAT IT READS IS OF BULK AT MOST 1048576: true; the input reads as it did. -/
def parseExprsUptoRow : OpenClaim := { program := "ytknocbhocdenoaagreatdoor", sum := "488c3c08ecb2428c8004ed42e98b9c54edbe4b28fdd61eeae4a886bcc1093707", func := "tripwire/tripwirelaw13.ParseExprs", spec := "parseExprs", inPlace := ["internal/reflectlite.ValueOf", "(internal/reflectlite.Value).Type", "(internal/reflectlite.Value).IsNil", "internal/reflectlite.TypeOf", "(internal/reflectlite.Value).Elem", "(internal/reflectlite.Value).Set"], unfollowed := true, recurses := true, named := ["errors.errorType"], apart := false, laid := [("errors.errorType", laid_errors_errorType)], narrowed := true }
def ParseExprsUptoSaid : Prop := parseExprsUptoRow.holds Tryz.pinned (OpenSpec.upto parseExprsSpec)

/-- 'tripwirelaw13.ParseChains', WHERE WHAT IT READS IS OF BULK AT MOST 1048576: true; the input reads as it did. -/
def parseChainsUptoRow : OpenClaim := { program := "ytknocbhocdenoaagreatdoor", sum := "488c3c08ecb2428c8004ed42e98b9c54edbe4b28fdd61eeae4a886bcc1093707", func := "tripwire/tripwirelaw13.ParseChains", spec := "parseChains", inPlace := ["internal/reflectlite.ValueOf", "(internal/reflectlite.Value).Type", "(internal/reflectlite.Value).IsNil", "internal/reflectlite.TypeOf", "(internal/reflectlite.Value).Elem", "(internal/reflectlite.Value).Set"], unfollowed := true, recurses := true, named := ["errors.errorType"], apart := false, laid := [("errors.errorType", laid_errors_errorType)], narrowed := true }
def ParseChainsUptoSaid : Prop := parseChainsUptoRow.holds Tryz.pinned (OpenSpec.upto parseChainsSpec)

/-- 'tripwirelaw13.ParseSound', WHERE WHAT IT READS IS OF BULK AT MOST 1048576: true; the input reads as it did. -/
def parseSoundUptoRow : OpenClaim := { program := "ytknocbhocdenoaagreatdoor", sum := "488c3c08ecb2428c8004ed42e98b9c54edbe4b28fdd61eeae4a886bcc1093707", func := "tripwire/tripwirelaw13.ParseSound", spec := "parseSound", inPlace := ["internal/reflectlite.ValueOf", "(internal/reflectlite.Value).Type", "(internal/reflectlite.Value).IsNil", "internal/reflectlite.TypeOf", "(internal/reflectlite.Value).Elem", "(internal/reflectlite.Value).Set"], unfollowed := true, recurses := true, named := ["errors.errorType"], apart := false, laid := [("errors.errorType", laid_errors_errorType)], narrowed := true }
def ParseSoundUptoSaid : Prop := parseSoundUptoRow.holds Tryz.pinned (OpenSpec.upto parseSoundSpec)

/-- 'tripwirelaw13.ParseSpaced', WHERE WHAT IT READS IS OF BULK AT MOST 1048576: true; the input reads as it did. -/
def parseSpacedUptoRow : OpenClaim := { program := "ytknocbhocdenoaagreatdoor", sum := "488c3c08ecb2428c8004ed42e98b9c54edbe4b28fdd61eeae4a886bcc1093707", func := "tripwire/tripwirelaw13.ParseSpaced", spec := "parseSpaced", inPlace := ["internal/reflectlite.ValueOf", "(internal/reflectlite.Value).Type", "(internal/reflectlite.Value).IsNil", "internal/reflectlite.TypeOf", "(internal/reflectlite.Value).Elem", "(internal/reflectlite.Value).Set"], unfollowed := true, recurses := true, named := ["errors.errorType"], apart := false, laid := [("errors.errorType", laid_errors_errorType)], narrowed := true }
def ParseSpacedUptoSaid : Prop := parseSpacedUptoRow.holds Tryz.pinned (OpenSpec.upto parseSpacedSpec)

/-- 'tripwirelaw16.CostExprs', WHERE WHAT IT READS IS OF BULK AT MOST 1048576: true; the input reads as it did. -/
def costExprsUptoRow : OpenClaim := { program := "ytknocbhocdenoaagreatdoor", sum := "488c3c08ecb2428c8004ed42e98b9c54edbe4b28fdd61eeae4a886bcc1093707", func := "tripwire/tripwirelaw16.CostExprs", spec := "costExprs", inPlace := ["internal/reflectlite.ValueOf", "(internal/reflectlite.Value).Type", "(internal/reflectlite.Value).IsNil", "internal/reflectlite.TypeOf", "(internal/reflectlite.Value).Elem", "(internal/reflectlite.Value).Set"], unfollowed := true, recurses := true, named := ["errors.errorType"], loops := true, apart := false, laid := [("errors.errorType", laid_errors_errorType)], narrowed := true }
def CostExprsUptoSaid : Prop := costExprsUptoRow.holds Tryz.pinned (OpenSpec.upto costExprsSpec)

/-- 'tripwirelaw16.CostParts', WHERE WHAT IT READS IS OF BULK AT MOST 1048576: true; the input reads as it did. -/
def costPartsUptoRow : OpenClaim := { program := "ytknocbhocdenoaagreatdoor", sum := "488c3c08ecb2428c8004ed42e98b9c54edbe4b28fdd61eeae4a886bcc1093707", func := "tripwire/tripwirelaw16.CostParts", spec := "costParts", inPlace := ["internal/reflectlite.ValueOf", "(internal/reflectlite.Value).Type", "(internal/reflectlite.Value).IsNil", "internal/reflectlite.TypeOf", "(internal/reflectlite.Value).Elem", "(internal/reflectlite.Value).Set"], unfollowed := true, recurses := true, named := ["errors.errorType"], loops := true, apart := false, laid := [("errors.errorType", laid_errors_errorType)], narrowed := true }
def CostPartsUptoSaid : Prop := costPartsUptoRow.holds Tryz.pinned (OpenSpec.upto costPartsSpec)

/-- 'tripwirelaw16.CostSizes', WHERE WHAT IT READS IS OF BULK AT MOST 1048576: true; the input reads as it did. -/
def costSizesUptoRow : OpenClaim := { program := "ytknocbhocdenoaagreatdoor", sum := "488c3c08ecb2428c8004ed42e98b9c54edbe4b28fdd61eeae4a886bcc1093707", func := "tripwire/tripwirelaw16.CostSizes", spec := "costSizes", inPlace := ["internal/reflectlite.ValueOf", "(internal/reflectlite.Value).Type", "(internal/reflectlite.Value).IsNil", "internal/reflectlite.TypeOf", "(internal/reflectlite.Value).Elem", "(internal/reflectlite.Value).Set"], unfollowed := true, recurses := true, named := ["errors.errorType"], loops := true, apart := false, laid := [("errors.errorType", laid_errors_errorType)], narrowed := true }
def CostSizesUptoSaid : Prop := costSizesUptoRow.holds Tryz.pinned (OpenSpec.upto costSizesSpec)

/-- 'tripwirelaw13.ParseWraps', WHERE WHAT IT READS IS OF BULK AT MOST 1048576: true; the input reads as it did. -/
def parseWrapsUptoRow : OpenClaim := { program := "ytknocbhocdenoaagreatdoor", sum := "488c3c08ecb2428c8004ed42e98b9c54edbe4b28fdd61eeae4a886bcc1093707", func := "tripwire/tripwirelaw13.ParseWraps", spec := "parseWraps", inPlace := ["internal/reflectlite.ValueOf", "(internal/reflectlite.Value).Type", "(internal/reflectlite.Value).IsNil", "internal/reflectlite.TypeOf", "(internal/reflectlite.Value).Elem", "(internal/reflectlite.Value).Set"], unfollowed := true, recurses := true, named := ["errors.errorType"], apart := false, laid := [("errors.errorType", laid_errors_errorType)], narrowed := true }
def ParseWrapsUptoSaid : Prop := parseWrapsUptoRow.holds Tryz.pinned (OpenSpec.upto parseWrapsSpec)

/-- 'tripwirelaw16.CostStates', WHERE WHAT IT READS IS OF BULK AT MOST 1048576: true; the input reads as it did. -/
def costStatesUptoRow : OpenClaim := { program := "ytknocbhocdenoaagreatdoor", sum := "488c3c08ecb2428c8004ed42e98b9c54edbe4b28fdd61eeae4a886bcc1093707", func := "tripwire/tripwirelaw16.CostStates", spec := "costStates", inPlace := ["internal/reflectlite.ValueOf", "(internal/reflectlite.Value).Type", "(internal/reflectlite.Value).IsNil", "internal/reflectlite.TypeOf", "(internal/reflectlite.Value).Elem", "(internal/reflectlite.Value).Set"], unfollowed := true, recurses := true, named := ["errors.errorType"], loops := true, apart := false, laid := [("errors.errorType", laid_errors_errorType)], narrowed := true }
def CostStatesUptoSaid : Prop := costStatesUptoRow.holds Tryz.pinned (OpenSpec.upto costStatesSpec)

/-- 'tripwirelaw16.CostStrategies', WHERE WHAT IT READS IS OF BULK AT MOST 1048576: true; the input reads as it did. -/
def costStrategiesUptoRow : OpenClaim := { program := "ytknocbhocdenoaagreatdoor", sum := "488c3c08ecb2428c8004ed42e98b9c54edbe4b28fdd61eeae4a886bcc1093707", func := "tripwire/tripwirelaw16.CostStrategies", spec := "costStrategies", inPlace := ["internal/reflectlite.ValueOf", "(internal/reflectlite.Value).Type", "(internal/reflectlite.Value).IsNil", "internal/reflectlite.TypeOf", "(internal/reflectlite.Value).Elem", "(internal/reflectlite.Value).Set"], unfollowed := true, recurses := true, named := ["errors.errorType"], loops := true, apart := false, laid := [("errors.errorType", laid_errors_errorType)], narrowed := true }
def CostStrategiesUptoSaid : Prop := costStrategiesUptoRow.holds Tryz.pinned (OpenSpec.upto costStrategiesSpec)

end Rows
end Go.Proofs.YtknocbhocdenoaaGreatDoor
