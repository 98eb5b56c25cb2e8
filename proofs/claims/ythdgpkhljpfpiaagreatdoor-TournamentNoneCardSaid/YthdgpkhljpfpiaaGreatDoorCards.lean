/-
  DERIVED. GIVEN WITH THE SEED: THE CARDS: each row of YthdgpkhljpfpiaaGreatDoorRows.lean that lists a variable, with what it lists TIED to the program's text (the seventh form; the later family's looks); each row that meets fmt, with fmt's text TOLD by the authors' own Lean function (tested against real Go, not proved from fmt's source: count such statements apart). THE CARD IS WHAT COUNTS. Prove the row's statement (the work); the ties are given (YthdgpkhljpfpiaaGreatDoorTie.lean); close each card by the builder's one call (the guide's Derived/Test/ToyasCard.lean, 'card_holds'). Laid BY PROGRAM, IN A SANDBOX (cutbox-door.mjs). By AI agents, Wed Nov 11 2026. No macro, syntax, notation, axiom, sorry.
-/
import Derived.Test.YthdgpkhljpfpiaaGreatDoorRows
import GoSem.ClaimSeven
namespace Go.Proofs.YthdgpkhljpfpiaaGreatDoor
namespace Rows

/-- THE TIED CARD OF 'caissalaw46.TournamentNone'. -/
def tournamentNoneCard : Claim7 := { stood := { row := tournamentNoneRow, standIns := [], harness := (true, "0304c684369f57ea9bed6fceace8d953276e7693ecb70c0995640c66b3131e31"), looks := false }, kinds := [], alts := [], laidByText := true, laidKinds := [.data, .data, .data], laidTests := true, laidLooks := .later }
def TournamentNoneCardSaid : Prop := Claim7.holds Tryz.pinned (.plain (OpenSpec.ofChange tournamentNoneSpec)) tournamentNoneCard

/-- THE SECOND FORM's CARD OF 'caissalaw46.TournamentNone'. -/
def tournamentNoneUptoCard : Claim7 := { stood := { row := tournamentNoneUptoRow, standIns := [], harness := (true, "0304c684369f57ea9bed6fceace8d953276e7693ecb70c0995640c66b3131e31"), looks := false }, kinds := [], alts := [], laidByText := true, laidKinds := [.data, .data, .data], laidTests := true, laidLooks := .later }
def TournamentNoneUptoCardSaid : Prop := Claim7.holds Tryz.pinned (.plain (OpenSpec.upto tournamentNoneSpec)) tournamentNoneUptoCard
end Rows
end Go.Proofs.YthdgpkhljpfpiaaGreatDoor
