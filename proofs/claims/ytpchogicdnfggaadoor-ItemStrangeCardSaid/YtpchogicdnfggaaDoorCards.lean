/-
  DERIVED. GIVEN WITH THE SEED: THE CARDS: each row of YtpchogicdnfggaaDoorRows.lean that lists a variable, with what it lists TIED to the program's text (the seventh form; the later family's looks); each row that meets fmt, with fmt's text TOLD by the authors' own Lean function (tested against real Go, not proved from fmt's source: count such statements apart). THE CARD IS WHAT COUNTS. Prove the row's statement (the work); the ties are given (YtpchogicdnfggaaDoorTie.lean); close each card by the builder's one call (the guide's Derived/Test/ToyasCard.lean, 'card_holds'). Laid BY PROGRAM, IN A SANDBOX (cutbox-door.mjs). By AI agents, Wed Nov 11 2026. No macro, syntax, notation, axiom, sorry.
-/
import Derived.Test.YtpchogicdnfggaaDoorRows
import GoSem.ClaimSeven
namespace Go.Proofs.YtpchogicdnfggaaDoor
namespace Rows

/-- THE TIED CARD OF 'hoardlaw21.ItemValues'. -/
def itemValuesCard : Claim7 := { stood := { row := itemValuesRow, standIns := [], harness := (true, "58cb6c46932675e5e0a9e320e46be545b00d08518a77416df2f4ddc78d7e0dde"), looks := false }, kinds := [], alts := [], laidByText := true, laidKinds := [.data, .pinned], laidTests := true, laidLooks := .later }
def ItemValuesCardSaid : Prop := Claim7.holds Tryd.pinned (.plain (OpenSpec.ofChange itemValuesSpec)) itemValuesCard

/-- THE TIED CARD OF 'hoardlaw21.ItemStreams'. -/
def itemStreamsCard : Claim7 := { stood := { row := itemStreamsRow, standIns := [], harness := (true, "58cb6c46932675e5e0a9e320e46be545b00d08518a77416df2f4ddc78d7e0dde"), looks := false }, kinds := [], alts := [], laidByText := true, laidKinds := [.data, .pinned], laidTests := true, laidLooks := .later }
def ItemStreamsCardSaid : Prop := Claim7.holds Tryd.pinned (.plain (OpenSpec.ofChange itemStreamsSpec)) itemStreamsCard

/-- THE TIED CARD OF 'hoardlaw21.ItemReads'. -/
def itemReadsCard : Claim7 := { stood := { row := itemReadsRow, standIns := [], harness := (true, "58cb6c46932675e5e0a9e320e46be545b00d08518a77416df2f4ddc78d7e0dde"), looks := false }, kinds := [], alts := [], laidByText := true, laidKinds := [.data, .pinned], laidTests := true, laidLooks := .later }
def ItemReadsCardSaid : Prop := Claim7.holds Tryd.pinned (.plain (OpenSpec.ofChange itemReadsSpec)) itemReadsCard

/-- THE TIED CARD OF 'hoardlaw21.ItemStrange'. -/
def itemStrangeCard : Claim7 := { stood := { row := itemStrangeRow, standIns := [], harness := (true, "58cb6c46932675e5e0a9e320e46be545b00d08518a77416df2f4ddc78d7e0dde"), looks := false }, kinds := [], alts := [], laidByText := true, laidKinds := [.data, .pinned], laidTests := true, laidLooks := .later }
def ItemStrangeCardSaid : Prop := Claim7.holds Tryd.pinned (.plain (OpenSpec.ofChange itemStrangeSpec)) itemStrangeCard

/-- THE TIED CARD OF 'hoardlaw21.ItemBack'. -/
def itemBackCard : Claim7 := { stood := { row := itemBackRow, standIns := [], harness := (true, "58cb6c46932675e5e0a9e320e46be545b00d08518a77416df2f4ddc78d7e0dde"), looks := false }, kinds := [], alts := [], laidByText := true, laidKinds := [.data, .pinned], laidTests := true, laidLooks := .later }
def ItemBackCardSaid : Prop := Claim7.holds Tryd.pinned (.plain (OpenSpec.ofChange itemBackSpec)) itemBackCard

/-- THE TIED CARD OF 'hoardlaw21.ItemAgain'. -/
def itemAgainCard : Claim7 := { stood := { row := itemAgainRow, standIns := [], harness := (true, "58cb6c46932675e5e0a9e320e46be545b00d08518a77416df2f4ddc78d7e0dde"), looks := false }, kinds := [], alts := [], laidByText := true, laidKinds := [.data, .pinned], laidTests := true, laidLooks := .later }
def ItemAgainCardSaid : Prop := Claim7.holds Tryd.pinned (.plain (OpenSpec.ofChange itemAgainSpec)) itemAgainCard

/-- THE SECOND FORM's CARD OF 'hoardlaw21.ItemValues'. -/
def itemValuesUptoCard : Claim7 := { stood := { row := itemValuesUptoRow, standIns := [], harness := (true, "58cb6c46932675e5e0a9e320e46be545b00d08518a77416df2f4ddc78d7e0dde"), looks := false }, kinds := [], alts := [], laidByText := true, laidKinds := [.data, .pinned], laidTests := true, laidLooks := .later }
def ItemValuesUptoCardSaid : Prop := Claim7.holds Tryd.pinned (.plain (OpenSpec.upto itemValuesSpec)) itemValuesUptoCard

/-- THE SECOND FORM's CARD OF 'hoardlaw21.ItemStreams'. -/
def itemStreamsUptoCard : Claim7 := { stood := { row := itemStreamsUptoRow, standIns := [], harness := (true, "58cb6c46932675e5e0a9e320e46be545b00d08518a77416df2f4ddc78d7e0dde"), looks := false }, kinds := [], alts := [], laidByText := true, laidKinds := [.data, .pinned], laidTests := true, laidLooks := .later }
def ItemStreamsUptoCardSaid : Prop := Claim7.holds Tryd.pinned (.plain (OpenSpec.upto itemStreamsSpec)) itemStreamsUptoCard

/-- THE SECOND FORM's CARD OF 'hoardlaw21.ItemReads'. -/
def itemReadsUptoCard : Claim7 := { stood := { row := itemReadsUptoRow, standIns := [], harness := (true, "58cb6c46932675e5e0a9e320e46be545b00d08518a77416df2f4ddc78d7e0dde"), looks := false }, kinds := [], alts := [], laidByText := true, laidKinds := [.data, .pinned], laidTests := true, laidLooks := .later }
def ItemReadsUptoCardSaid : Prop := Claim7.holds Tryd.pinned (.plain (OpenSpec.upto itemReadsSpec)) itemReadsUptoCard

/-- THE SECOND FORM's CARD OF 'hoardlaw21.ItemStrange'. -/
def itemStrangeUptoCard : Claim7 := { stood := { row := itemStrangeUptoRow, standIns := [], harness := (true, "58cb6c46932675e5e0a9e320e46be545b00d08518a77416df2f4ddc78d7e0dde"), looks := false }, kinds := [], alts := [], laidByText := true, laidKinds := [.data, .pinned], laidTests := true, laidLooks := .later }
def ItemStrangeUptoCardSaid : Prop := Claim7.holds Tryd.pinned (.plain (OpenSpec.upto itemStrangeSpec)) itemStrangeUptoCard

/-- THE SECOND FORM's CARD OF 'hoardlaw21.ItemBack'. -/
def itemBackUptoCard : Claim7 := { stood := { row := itemBackUptoRow, standIns := [], harness := (true, "58cb6c46932675e5e0a9e320e46be545b00d08518a77416df2f4ddc78d7e0dde"), looks := false }, kinds := [], alts := [], laidByText := true, laidKinds := [.data, .pinned], laidTests := true, laidLooks := .later }
def ItemBackUptoCardSaid : Prop := Claim7.holds Tryd.pinned (.plain (OpenSpec.upto itemBackSpec)) itemBackUptoCard

/-- THE SECOND FORM's CARD OF 'hoardlaw21.ItemAgain'. -/
def itemAgainUptoCard : Claim7 := { stood := { row := itemAgainUptoRow, standIns := [], harness := (true, "58cb6c46932675e5e0a9e320e46be545b00d08518a77416df2f4ddc78d7e0dde"), looks := false }, kinds := [], alts := [], laidByText := true, laidKinds := [.data, .pinned], laidTests := true, laidLooks := .later }
def ItemAgainUptoCardSaid : Prop := Claim7.holds Tryd.pinned (.plain (OpenSpec.upto itemAgainSpec)) itemAgainUptoCard
end Rows
end Go.Proofs.YtpchogicdnfggaaDoor
