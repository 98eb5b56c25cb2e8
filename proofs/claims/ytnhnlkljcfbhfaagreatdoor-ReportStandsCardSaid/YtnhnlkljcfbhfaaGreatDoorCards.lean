/-
  DERIVED. GIVEN WITH THE SEED: THE CARDS: each row of YtnhnlkljcfbhfaaGreatDoorRows.lean that lists a variable, with what it lists TIED to the program's text (the seventh form; the later family's looks); each row that meets fmt, with fmt's text TOLD by the authors' own Lean function (tested against real Go, not proved from fmt's source: count such statements apart). THE CARD IS WHAT COUNTS. Prove the row's statement (the work); the ties are given (YtnhnlkljcfbhfaaGreatDoorTie.lean); close each card by the builder's one call (the guide's Derived/Test/ToyasCard.lean, 'card_holds'). Laid BY PROGRAM, IN A SANDBOX (cutbox-door.mjs). By AI agents, Wed Nov 11 2026. No macro, syntax, notation, axiom, sorry.
-/
import Derived.Test.YtnhnlkljcfbhfaaGreatDoorRows
import GoSem.ClaimSeven
namespace Go.Proofs.YtnhnlkljcfbhfaaGreatDoor
namespace Rows

/-- THE TIED CARD OF 'caissalaw52.ReportBoards'. -/
def reportBoardsCard : Claim7 := { stood := { row := reportBoardsRow, standIns := [], harness := (true, "de3af33bbd5bc3dadab467df505a4007a52dc8bd201a7ea136a2c8724fe373c9"), looks := true }, kinds := [], alts := [], laidByText := true, laidKinds := [.data, .data, .data, .data, .data, .widerDeep, .widerDeep, .widerDeep, .sentinel, .sentinel, .data, .pinned], laidTests := true, laidLooks := .later }
def ReportBoardsCardSaid : Prop := Claim7.holds Tryz.pinned (.plain (OpenSpec.ofChange reportBoardsSpec)) reportBoardsCard

/-- THE TIED CARD OF 'caissalaw52.ReportTexts'. -/
def reportTextsCard : Claim7 := { stood := { row := reportTextsRow, standIns := [], harness := (true, "de3af33bbd5bc3dadab467df505a4007a52dc8bd201a7ea136a2c8724fe373c9"), looks := true }, kinds := [], alts := [], laidByText := true, laidKinds := [.data, .data, .data, .data, .data, .widerDeep, .widerDeep, .widerDeep, .sentinel, .sentinel, .data, .pinned], laidTests := true, laidLooks := .later }
def ReportTextsCardSaid : Prop := Claim7.holds Tryz.pinned (.plain (OpenSpec.ofChange reportTextsSpec)) reportTextsCard

/-- THE TIED CARD OF 'caissalaw52.ReportPairings'. -/
def reportPairingsCard : Claim7 := { stood := { row := reportPairingsRow, standIns := [], harness := (true, "de3af33bbd5bc3dadab467df505a4007a52dc8bd201a7ea136a2c8724fe373c9"), looks := true }, kinds := [], alts := [], laidByText := true, laidKinds := [.data, .data, .data, .data, .data, .widerDeep, .widerDeep, .widerDeep, .sentinel, .sentinel, .data, .pinned], laidTests := true, laidLooks := .later }
def ReportPairingsCardSaid : Prop := Claim7.holds Tryz.pinned (.plain (OpenSpec.ofChange reportPairingsSpec)) reportPairingsCard

/-- THE TIED CARD OF 'caissalaw52.ReportStands'. -/
def reportStandsCard : Claim7 := { stood := { row := reportStandsRow, standIns := [], harness := (true, "de3af33bbd5bc3dadab467df505a4007a52dc8bd201a7ea136a2c8724fe373c9"), looks := true }, kinds := [], alts := [], laidByText := true, laidKinds := [.data, .data, .data, .data, .data, .widerDeep, .widerDeep, .widerDeep, .sentinel, .sentinel, .data, .pinned], laidTests := true, laidLooks := .later }
def ReportStandsCardSaid : Prop := Claim7.holds Tryz.pinned (.plain (OpenSpec.ofChange reportStandsSpec)) reportStandsCard

/-- THE SECOND FORM's CARD OF 'caissalaw52.ReportBoards'. -/
def reportBoardsUptoCard : Claim7 := { stood := { row := reportBoardsUptoRow, standIns := [], harness := (true, "de3af33bbd5bc3dadab467df505a4007a52dc8bd201a7ea136a2c8724fe373c9"), looks := true }, kinds := [], alts := [], laidByText := true, laidKinds := [.data, .data, .data, .data, .data, .widerDeep, .widerDeep, .widerDeep, .sentinel, .sentinel, .data, .pinned], laidTests := true, laidLooks := .later }
def ReportBoardsUptoCardSaid : Prop := Claim7.holds Tryz.pinned (.plain (OpenSpec.upto reportBoardsSpec)) reportBoardsUptoCard

/-- THE SECOND FORM's CARD OF 'caissalaw52.ReportTexts'. -/
def reportTextsUptoCard : Claim7 := { stood := { row := reportTextsUptoRow, standIns := [], harness := (true, "de3af33bbd5bc3dadab467df505a4007a52dc8bd201a7ea136a2c8724fe373c9"), looks := true }, kinds := [], alts := [], laidByText := true, laidKinds := [.data, .data, .data, .data, .data, .widerDeep, .widerDeep, .widerDeep, .sentinel, .sentinel, .data, .pinned], laidTests := true, laidLooks := .later }
def ReportTextsUptoCardSaid : Prop := Claim7.holds Tryz.pinned (.plain (OpenSpec.upto reportTextsSpec)) reportTextsUptoCard

/-- THE SECOND FORM's CARD OF 'caissalaw52.ReportPairings'. -/
def reportPairingsUptoCard : Claim7 := { stood := { row := reportPairingsUptoRow, standIns := [], harness := (true, "de3af33bbd5bc3dadab467df505a4007a52dc8bd201a7ea136a2c8724fe373c9"), looks := true }, kinds := [], alts := [], laidByText := true, laidKinds := [.data, .data, .data, .data, .data, .widerDeep, .widerDeep, .widerDeep, .sentinel, .sentinel, .data, .pinned], laidTests := true, laidLooks := .later }
def ReportPairingsUptoCardSaid : Prop := Claim7.holds Tryz.pinned (.plain (OpenSpec.upto reportPairingsSpec)) reportPairingsUptoCard

/-- THE SECOND FORM's CARD OF 'caissalaw52.ReportStands'. -/
def reportStandsUptoCard : Claim7 := { stood := { row := reportStandsUptoRow, standIns := [], harness := (true, "de3af33bbd5bc3dadab467df505a4007a52dc8bd201a7ea136a2c8724fe373c9"), looks := true }, kinds := [], alts := [], laidByText := true, laidKinds := [.data, .data, .data, .data, .data, .widerDeep, .widerDeep, .widerDeep, .sentinel, .sentinel, .data, .pinned], laidTests := true, laidLooks := .later }
def ReportStandsUptoCardSaid : Prop := Claim7.holds Tryz.pinned (.plain (OpenSpec.upto reportStandsSpec)) reportStandsUptoCard
end Rows
end Go.Proofs.YtnhnlkljcfbhfaaGreatDoor
