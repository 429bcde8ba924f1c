/-
  DERIVED. GIVEN WITH THE SEED: THE CARDS: each row of YtcanlgcifnjfaaaDoorRows.lean that lists a variable, with what it lists TIED to the program's text (the seventh form; the later family's looks); each row that meets fmt, with fmt's text TOLD by the authors' own Lean function (tested against real Go, not proved from fmt's source: count such statements apart). THE CARD IS WHAT COUNTS. Prove the row's statement (the work); the ties are given (YtcanlgcifnjfaaaDoorTie.lean); close each card by the builder's one call (the guide's Derived/Test/ToyasCard.lean, 'card_holds'). Laid BY PROGRAM, IN A SANDBOX (cutbox-door.mjs). By AI agents, Wed Nov 11 2026. No macro, syntax, notation, axiom, sorry.
-/
import Derived.Test.YtcanlgcifnjfaaaDoorRows
import GoSem.ClaimSeven
namespace Go.Proofs.YtcanlgcifnjfaaaDoor
namespace Rows

/-- THE TIED CARD OF 'hoardlaw20.PathCleans'. -/
def pathCleansCard : Claim7 := { stood := { row := pathCleansRow, standIns := [], harness := (true, "2aa859fb6cfffaf67554d566466c6a07bec8547d5449c6057066010da362ad06"), looks := false }, kinds := [], alts := [], laidByText := true, laidKinds := [.data, .pinned], laidTests := true, laidLooks := .later }
def PathCleansCardSaid : Prop := Claim7.holds Tryd.pinned (.plain (OpenSpec.ofChange pathCleansSpec)) pathCleansCard

/-- THE TIED CARD OF 'hoardlaw20.PathOrders'. -/
def pathOrdersCard : Claim7 := { stood := { row := pathOrdersRow, standIns := [], harness := (true, "2aa859fb6cfffaf67554d566466c6a07bec8547d5449c6057066010da362ad06"), looks := false }, kinds := [], alts := [], laidByText := true, laidKinds := [.data, .pinned], laidTests := true, laidLooks := .later }
def PathOrdersCardSaid : Prop := Claim7.holds Tryd.pinned (.plain (OpenSpec.ofChange pathOrdersSpec)) pathOrdersCard

/-- THE TIED CARD OF 'hoardlaw20.PathChecks'. -/
def pathChecksCard : Claim7 := { stood := { row := pathChecksRow, standIns := [], harness := (true, "2aa859fb6cfffaf67554d566466c6a07bec8547d5449c6057066010da362ad06"), looks := false }, kinds := [], alts := [], laidByText := true, laidKinds := [.data, .pinned], laidTests := true, laidLooks := .later }
def PathChecksCardSaid : Prop := Claim7.holds Tryd.pinned (.plain (OpenSpec.ofChange pathChecksSpec)) pathChecksCard

/-- THE TIED CARD OF 'hoardlaw20.PathJoins'. -/
def pathJoinsCard : Claim7 := { stood := { row := pathJoinsRow, standIns := [], harness := (true, "2aa859fb6cfffaf67554d566466c6a07bec8547d5449c6057066010da362ad06"), looks := false }, kinds := [], alts := [], laidByText := true, laidKinds := [.data, .pinned], laidTests := true, laidLooks := .later }
def PathJoinsCardSaid : Prop := Claim7.holds Tryd.pinned (.plain (OpenSpec.ofChange pathJoinsSpec)) pathJoinsCard

/-- THE TIED CARD OF 'hoardlaw20.PathPlain'. -/
def pathPlainCard : Claim7 := { stood := { row := pathPlainRow, standIns := [], harness := (true, "2aa859fb6cfffaf67554d566466c6a07bec8547d5449c6057066010da362ad06"), looks := false }, kinds := [], alts := [], laidByText := true, laidKinds := [.data, .pinned], laidTests := true, laidLooks := .later }
def PathPlainCardSaid : Prop := Claim7.holds Tryd.pinned (.plain (OpenSpec.ofChange pathPlainSpec)) pathPlainCard

/-- THE TIED CARD OF 'hoardlaw20.PathStars'. -/
def pathStarsCard : Claim7 := { stood := { row := pathStarsRow, standIns := [], harness := (true, "2aa859fb6cfffaf67554d566466c6a07bec8547d5449c6057066010da362ad06"), looks := false }, kinds := [], alts := [], laidByText := true, laidKinds := [.data, .pinned], laidTests := true, laidLooks := .later }
def PathStarsCardSaid : Prop := Claim7.holds Tryd.pinned (.plain (OpenSpec.ofChange pathStarsSpec)) pathStarsCard

/-- THE TIED CARD OF 'hoardlaw20.PathSelects'. -/
def pathSelectsCard : Claim7 := { stood := { row := pathSelectsRow, standIns := [], harness := (true, "2aa859fb6cfffaf67554d566466c6a07bec8547d5449c6057066010da362ad06"), looks := false }, kinds := [], alts := [], laidByText := true, laidKinds := [.data, .pinned], laidTests := true, laidLooks := .later }
def PathSelectsCardSaid : Prop := Claim7.holds Tryd.pinned (.plain (OpenSpec.ofChange pathSelectsSpec)) pathSelectsCard

/-- THE SECOND FORM's CARD OF 'hoardlaw20.PathCleans'. -/
def pathCleansUptoCard : Claim7 := { stood := { row := pathCleansUptoRow, standIns := [], harness := (true, "2aa859fb6cfffaf67554d566466c6a07bec8547d5449c6057066010da362ad06"), looks := false }, kinds := [], alts := [], laidByText := true, laidKinds := [.data, .pinned], laidTests := true, laidLooks := .later }
def PathCleansUptoCardSaid : Prop := Claim7.holds Tryd.pinned (.plain (OpenSpec.upto pathCleansSpec)) pathCleansUptoCard

/-- THE SECOND FORM's CARD OF 'hoardlaw20.PathOrders'. -/
def pathOrdersUptoCard : Claim7 := { stood := { row := pathOrdersUptoRow, standIns := [], harness := (true, "2aa859fb6cfffaf67554d566466c6a07bec8547d5449c6057066010da362ad06"), looks := false }, kinds := [], alts := [], laidByText := true, laidKinds := [.data, .pinned], laidTests := true, laidLooks := .later }
def PathOrdersUptoCardSaid : Prop := Claim7.holds Tryd.pinned (.plain (OpenSpec.upto pathOrdersSpec)) pathOrdersUptoCard

/-- THE SECOND FORM's CARD OF 'hoardlaw20.PathChecks'. -/
def pathChecksUptoCard : Claim7 := { stood := { row := pathChecksUptoRow, standIns := [], harness := (true, "2aa859fb6cfffaf67554d566466c6a07bec8547d5449c6057066010da362ad06"), looks := false }, kinds := [], alts := [], laidByText := true, laidKinds := [.data, .pinned], laidTests := true, laidLooks := .later }
def PathChecksUptoCardSaid : Prop := Claim7.holds Tryd.pinned (.plain (OpenSpec.upto pathChecksSpec)) pathChecksUptoCard

/-- THE SECOND FORM's CARD OF 'hoardlaw20.PathJoins'. -/
def pathJoinsUptoCard : Claim7 := { stood := { row := pathJoinsUptoRow, standIns := [], harness := (true, "2aa859fb6cfffaf67554d566466c6a07bec8547d5449c6057066010da362ad06"), looks := false }, kinds := [], alts := [], laidByText := true, laidKinds := [.data, .pinned], laidTests := true, laidLooks := .later }
def PathJoinsUptoCardSaid : Prop := Claim7.holds Tryd.pinned (.plain (OpenSpec.upto pathJoinsSpec)) pathJoinsUptoCard

/-- THE SECOND FORM's CARD OF 'hoardlaw20.PathPlain'. -/
def pathPlainUptoCard : Claim7 := { stood := { row := pathPlainUptoRow, standIns := [], harness := (true, "2aa859fb6cfffaf67554d566466c6a07bec8547d5449c6057066010da362ad06"), looks := false }, kinds := [], alts := [], laidByText := true, laidKinds := [.data, .pinned], laidTests := true, laidLooks := .later }
def PathPlainUptoCardSaid : Prop := Claim7.holds Tryd.pinned (.plain (OpenSpec.upto pathPlainSpec)) pathPlainUptoCard

/-- THE SECOND FORM's CARD OF 'hoardlaw20.PathStars'. -/
def pathStarsUptoCard : Claim7 := { stood := { row := pathStarsUptoRow, standIns := [], harness := (true, "2aa859fb6cfffaf67554d566466c6a07bec8547d5449c6057066010da362ad06"), looks := false }, kinds := [], alts := [], laidByText := true, laidKinds := [.data, .pinned], laidTests := true, laidLooks := .later }
def PathStarsUptoCardSaid : Prop := Claim7.holds Tryd.pinned (.plain (OpenSpec.upto pathStarsSpec)) pathStarsUptoCard

/-- THE SECOND FORM's CARD OF 'hoardlaw20.PathSelects'. -/
def pathSelectsUptoCard : Claim7 := { stood := { row := pathSelectsUptoRow, standIns := [], harness := (true, "2aa859fb6cfffaf67554d566466c6a07bec8547d5449c6057066010da362ad06"), looks := false }, kinds := [], alts := [], laidByText := true, laidKinds := [.data, .pinned], laidTests := true, laidLooks := .later }
def PathSelectsUptoCardSaid : Prop := Claim7.holds Tryd.pinned (.plain (OpenSpec.upto pathSelectsSpec)) pathSelectsUptoCard
end Rows
end Go.Proofs.YtcanlgcifnjfaaaDoor
