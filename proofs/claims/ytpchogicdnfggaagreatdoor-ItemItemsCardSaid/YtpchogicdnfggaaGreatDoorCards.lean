/-
  DERIVED. GIVEN WITH THE SEED: THE CARDS: each row of YtpchogicdnfggaaGreatDoorRows.lean that lists a variable, with what it lists TIED to the program's text (the seventh form; the later family's looks); each row that meets fmt, with fmt's text TOLD by the authors' own Lean function (tested against real Go, not proved from fmt's source: count such statements apart). THE CARD IS WHAT COUNTS. Prove the row's statement (the work); the ties are given (YtpchogicdnfggaaGreatDoorTie.lean); close each card by the builder's one call (the guide's Derived/Test/ToyasCard.lean, 'card_holds'). Laid BY PROGRAM, IN A SANDBOX (cutbox-door.mjs). By AI agents, Wed Nov 11 2026. No macro, syntax, notation, axiom, sorry.
-/
import Derived.Test.YtpchogicdnfggaaGreatDoorRows
import GoSem.ClaimSeven
namespace Go.Proofs.YtpchogicdnfggaaGreatDoor
namespace Rows

/-- THE TIED CARD OF 'hoardlaw21.ItemItems'. -/
def itemItemsCard : Claim7 := { stood := { row := itemItemsRow, standIns := [], harness := (true, "073a925b6e20673567081841e312737855a4b27eac5a5242b27faefc861277c0"), looks := false }, kinds := [], alts := [], laidByText := true, laidKinds := [.data, .pinned], laidTests := true, laidLooks := .later }
def ItemItemsCardSaid : Prop := Claim7.holds Tryz.pinned (.plain (OpenSpec.ofChange itemItemsSpec)) itemItemsCard

/-- THE SECOND FORM's CARD OF 'hoardlaw21.ItemItems'. -/
def itemItemsUptoCard : Claim7 := { stood := { row := itemItemsUptoRow, standIns := [], harness := (true, "073a925b6e20673567081841e312737855a4b27eac5a5242b27faefc861277c0"), looks := false }, kinds := [], alts := [], laidByText := true, laidKinds := [.data, .pinned], laidTests := true, laidLooks := .later }
def ItemItemsUptoCardSaid : Prop := Claim7.holds Tryz.pinned (.plain (OpenSpec.upto itemItemsSpec)) itemItemsUptoCard
end Rows
end Go.Proofs.YtpchogicdnfggaaGreatDoor
