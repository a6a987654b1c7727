/-
  DERIVED. GIVEN WITH THE SEED: THE CARDS: each row of YtfojnphbocojfaaGreatDoorRows.lean that lists a variable, with what it lists TIED to the program's text (the seventh form; the later family's looks); each row that meets fmt, with fmt's text TOLD by the authors' own Lean function (tested against real Go, not proved from fmt's source: count such statements apart). THE CARD IS WHAT COUNTS. Prove the row's statement (the work); the ties are given (YtfojnphbocojfaaGreatDoorTie.lean); close each card by the builder's one call (the guide's Derived/Test/ToyasCard.lean, 'card_holds'). Laid BY PROGRAM, IN A SANDBOX (cutbox-door.mjs). By AI agents, Wed Nov 11 2026. No macro, syntax, notation, axiom, sorry.
-/
import Derived.Test.YtfojnphbocojfaaGreatDoorRows
import GoSem.ClaimSeven
namespace Go.Proofs.YtfojnphbocojfaaGreatDoor
namespace Rows

/-- THE TIED CARD OF 'qanatlaw02.TextPads'. -/
def textPadsCard : Claim7 := { stood := { row := textPadsRow, standIns := [], harness := (true, "9470bb3cc83f0eae9be85f23f45d769e68427c091e55a4f9b95d0bc6a7371e88"), looks := false }, kinds := [], alts := [], laidByText := true, laidKinds := [.data, .listed, .data, .pinned], laidTests := true, laidLooks := .later }
def TextPadsCardSaid : Prop := Claim7.holds Tryz.pinned (.plain (OpenSpec.ofChange textPadsSpec)) textPadsCard

/-- THE SECOND FORM's CARD OF 'qanatlaw02.TextPads'. -/
def textPadsUptoCard : Claim7 := { stood := { row := textPadsUptoRow, standIns := [], harness := (true, "9470bb3cc83f0eae9be85f23f45d769e68427c091e55a4f9b95d0bc6a7371e88"), looks := false }, kinds := [], alts := [], laidByText := true, laidKinds := [.data, .listed, .data, .pinned], laidTests := true, laidLooks := .later }
def TextPadsUptoCardSaid : Prop := Claim7.holds Tryz.pinned (.plain (OpenSpec.upto textPadsSpec)) textPadsUptoCard
end Rows
end Go.Proofs.YtfojnphbocojfaaGreatDoor
