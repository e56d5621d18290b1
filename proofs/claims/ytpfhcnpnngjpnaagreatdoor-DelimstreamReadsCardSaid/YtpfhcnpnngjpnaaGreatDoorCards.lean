/-
  DERIVED. GIVEN WITH THE SEED: THE CARDS: each row of YtpfhcnpnngjpnaaGreatDoorRows.lean that lists a variable, with what it lists TIED to the program's text (the seventh form; the later family's looks); each row that meets fmt, with fmt's text TOLD by the authors' own Lean function (tested against real Go, not proved from fmt's source: count such statements apart). THE CARD IS WHAT COUNTS. Prove the row's statement (the work); the ties are given (YtpfhcnpnngjpnaaGreatDoorTie.lean); close each card by the builder's one call (the guide's Derived/Test/ToyasCard.lean, 'card_holds'). Laid BY PROGRAM, IN A SANDBOX (cutbox-door.mjs). By AI agents, Wed Nov 11 2026. No macro, syntax, notation, axiom, sorry.
-/
import Derived.Test.YtpfhcnpnngjpnaaGreatDoorRows
import GoSem.ClaimSeven
namespace Go.Proofs.YtpfhcnpnngjpnaaGreatDoor
namespace Rows

/-- THE TIED CARD OF 'datakitlaw33.DelimstreamReads'. -/
def delimstreamReadsCard : Claim7 := { stood := { row := delimstreamReadsRow, standIns := [], harness := (true, "b42e1eeadf448e6f424dc1760dc62a9848c1869bcdce38b15caf858df2801eaf"), looks := false }, kinds := [], alts := [], laidByText := true, laidKinds := [.data, .pinned], laidTests := true, laidLooks := .later }
def DelimstreamReadsCardSaid : Prop := Claim7.holds Tryz.pinned (.plain (OpenSpec.ofChange delimstreamReadsSpec)) delimstreamReadsCard

/-- THE TIED CARD OF 'datakitlaw33.DelimstreamFeeds'. -/
def delimstreamFeedsCard : Claim7 := { stood := { row := delimstreamFeedsRow, standIns := [], harness := (true, "b42e1eeadf448e6f424dc1760dc62a9848c1869bcdce38b15caf858df2801eaf"), looks := false }, kinds := [], alts := [], laidByText := true, laidKinds := [.data, .pinned], laidTests := true, laidLooks := .later }
def DelimstreamFeedsCardSaid : Prop := Claim7.holds Tryz.pinned (.plain (OpenSpec.ofChange delimstreamFeedsSpec)) delimstreamFeedsCard

/-- THE TIED CARD OF 'datakitlaw33.DelimstreamNils'. -/
def delimstreamNilsCard : Claim7 := { stood := { row := delimstreamNilsRow, standIns := [], harness := (true, "b42e1eeadf448e6f424dc1760dc62a9848c1869bcdce38b15caf858df2801eaf"), looks := false }, kinds := [], alts := [], laidByText := true, laidKinds := [.data, .pinned], laidTests := true, laidLooks := .later }
def DelimstreamNilsCardSaid : Prop := Claim7.holds Tryz.pinned (.plain (OpenSpec.ofChange delimstreamNilsSpec)) delimstreamNilsCard

/-- THE TIED CARD OF 'datakitlaw28.GridCells'. -/
def gridCellsCard : Claim7 := { stood := { row := gridCellsRow, standIns := [], harness := (true, "b42e1eeadf448e6f424dc1760dc62a9848c1869bcdce38b15caf858df2801eaf"), looks := false }, kinds := [], alts := [], laidByText := true, laidKinds := [.data, .pinned], laidTests := true, laidLooks := .later }
def GridCellsCardSaid : Prop := Claim7.holds Tryz.pinned (.plain (OpenSpec.ofChange gridCellsSpec)) gridCellsCard

/-- THE TIED CARD OF 'datakitlaw28.GridReads'. -/
def gridReadsCard : Claim7 := { stood := { row := gridReadsRow, standIns := [], harness := (true, "b42e1eeadf448e6f424dc1760dc62a9848c1869bcdce38b15caf858df2801eaf"), looks := false }, kinds := [], alts := [], laidByText := true, laidKinds := [.data, .pinned], laidTests := true, laidLooks := .later }
def GridReadsCardSaid : Prop := Claim7.holds Tryz.pinned (.plain (OpenSpec.ofChange gridReadsSpec)) gridReadsCard

/-- THE TIED CARD OF 'datakitlaw28.GridValues'. -/
def gridValuesCard : Claim7 := { stood := { row := gridValuesRow, standIns := [], harness := (true, "b42e1eeadf448e6f424dc1760dc62a9848c1869bcdce38b15caf858df2801eaf"), looks := false }, kinds := [], alts := [], laidByText := true, laidKinds := [.data, .pinned], laidTests := true, laidLooks := .later }
def GridValuesCardSaid : Prop := Claim7.holds Tryz.pinned (.plain (OpenSpec.ofChange gridValuesSpec)) gridValuesCard

/-- THE TIED CARD OF 'datakitlaw33.DelimstreamParts'. -/
def delimstreamPartsCard : Claim7 := { stood := { row := delimstreamPartsRow, standIns := [], harness := (true, "b42e1eeadf448e6f424dc1760dc62a9848c1869bcdce38b15caf858df2801eaf"), looks := false }, kinds := [], alts := [], laidByText := true, laidKinds := [.data, .pinned], laidTests := true, laidLooks := .later }
def DelimstreamPartsCardSaid : Prop := Claim7.holds Tryz.pinned (.plain (OpenSpec.ofChange delimstreamPartsSpec)) delimstreamPartsCard

/-- THE TIED CARD OF 'datakitlaw28.GridLocates'. -/
def gridLocatesCard : Claim7 := { stood := { row := gridLocatesRow, standIns := [], harness := (true, "b42e1eeadf448e6f424dc1760dc62a9848c1869bcdce38b15caf858df2801eaf"), looks := false }, kinds := [], alts := [], laidByText := true, laidKinds := [.data, .pinned], laidTests := true, laidLooks := .later }
def GridLocatesCardSaid : Prop := Claim7.holds Tryz.pinned (.plain (OpenSpec.ofChange gridLocatesSpec)) gridLocatesCard

/-- THE TIED CARD OF 'datakitlaw28.GridWrites'. -/
def gridWritesCard : Claim7 := { stood := { row := gridWritesRow, standIns := [], harness := (true, "b42e1eeadf448e6f424dc1760dc62a9848c1869bcdce38b15caf858df2801eaf"), looks := false }, kinds := [], alts := [], laidByText := true, laidKinds := [.data, .pinned], laidTests := true, laidLooks := .later }
def GridWritesCardSaid : Prop := Claim7.holds Tryz.pinned (.plain (OpenSpec.ofChange gridWritesSpec)) gridWritesCard

/-- THE TIED CARD OF 'datakitlaw28.GridBack'. -/
def gridBackCard : Claim7 := { stood := { row := gridBackRow, standIns := [], harness := (true, "b42e1eeadf448e6f424dc1760dc62a9848c1869bcdce38b15caf858df2801eaf"), looks := false }, kinds := [], alts := [], laidByText := true, laidKinds := [.data, .pinned], laidTests := true, laidLooks := .later }
def GridBackCardSaid : Prop := Claim7.holds Tryz.pinned (.plain (OpenSpec.ofChange gridBackSpec)) gridBackCard

/-- THE TIED CARD OF 'datakitlaw28.GridLossless'. -/
def gridLosslessCard : Claim7 := { stood := { row := gridLosslessRow, standIns := [], harness := (true, "b42e1eeadf448e6f424dc1760dc62a9848c1869bcdce38b15caf858df2801eaf"), looks := false }, kinds := [], alts := [], laidByText := true, laidKinds := [.data, .pinned], laidTests := true, laidLooks := .later }
def GridLosslessCardSaid : Prop := Claim7.holds Tryz.pinned (.plain (OpenSpec.ofChange gridLosslessSpec)) gridLosslessCard

/-- THE TIED CARD OF 'datakitlaw28.GridAgain'. -/
def gridAgainCard : Claim7 := { stood := { row := gridAgainRow, standIns := [], harness := (true, "b42e1eeadf448e6f424dc1760dc62a9848c1869bcdce38b15caf858df2801eaf"), looks := false }, kinds := [], alts := [], laidByText := true, laidKinds := [.data, .pinned], laidTests := true, laidLooks := .later }
def GridAgainCardSaid : Prop := Claim7.holds Tryz.pinned (.plain (OpenSpec.ofChange gridAgainSpec)) gridAgainCard

/-- THE SECOND FORM's CARD OF 'datakitlaw33.DelimstreamReads'. -/
def delimstreamReadsUptoCard : Claim7 := { stood := { row := delimstreamReadsUptoRow, standIns := [], harness := (true, "b42e1eeadf448e6f424dc1760dc62a9848c1869bcdce38b15caf858df2801eaf"), looks := false }, kinds := [], alts := [], laidByText := true, laidKinds := [.data, .pinned], laidTests := true, laidLooks := .later }
def DelimstreamReadsUptoCardSaid : Prop := Claim7.holds Tryz.pinned (.plain (OpenSpec.upto delimstreamReadsSpec)) delimstreamReadsUptoCard

/-- THE SECOND FORM's CARD OF 'datakitlaw33.DelimstreamFeeds'. -/
def delimstreamFeedsUptoCard : Claim7 := { stood := { row := delimstreamFeedsUptoRow, standIns := [], harness := (true, "b42e1eeadf448e6f424dc1760dc62a9848c1869bcdce38b15caf858df2801eaf"), looks := false }, kinds := [], alts := [], laidByText := true, laidKinds := [.data, .pinned], laidTests := true, laidLooks := .later }
def DelimstreamFeedsUptoCardSaid : Prop := Claim7.holds Tryz.pinned (.plain (OpenSpec.upto delimstreamFeedsSpec)) delimstreamFeedsUptoCard

/-- THE SECOND FORM's CARD OF 'datakitlaw33.DelimstreamNils'. -/
def delimstreamNilsUptoCard : Claim7 := { stood := { row := delimstreamNilsUptoRow, standIns := [], harness := (true, "b42e1eeadf448e6f424dc1760dc62a9848c1869bcdce38b15caf858df2801eaf"), looks := false }, kinds := [], alts := [], laidByText := true, laidKinds := [.data, .pinned], laidTests := true, laidLooks := .later }
def DelimstreamNilsUptoCardSaid : Prop := Claim7.holds Tryz.pinned (.plain (OpenSpec.upto delimstreamNilsSpec)) delimstreamNilsUptoCard

/-- THE SECOND FORM's CARD OF 'datakitlaw28.GridCells'. -/
def gridCellsUptoCard : Claim7 := { stood := { row := gridCellsUptoRow, standIns := [], harness := (true, "b42e1eeadf448e6f424dc1760dc62a9848c1869bcdce38b15caf858df2801eaf"), looks := false }, kinds := [], alts := [], laidByText := true, laidKinds := [.data, .pinned], laidTests := true, laidLooks := .later }
def GridCellsUptoCardSaid : Prop := Claim7.holds Tryz.pinned (.plain (OpenSpec.upto gridCellsSpec)) gridCellsUptoCard

/-- THE SECOND FORM's CARD OF 'datakitlaw28.GridReads'. -/
def gridReadsUptoCard : Claim7 := { stood := { row := gridReadsUptoRow, standIns := [], harness := (true, "b42e1eeadf448e6f424dc1760dc62a9848c1869bcdce38b15caf858df2801eaf"), looks := false }, kinds := [], alts := [], laidByText := true, laidKinds := [.data, .pinned], laidTests := true, laidLooks := .later }
def GridReadsUptoCardSaid : Prop := Claim7.holds Tryz.pinned (.plain (OpenSpec.upto gridReadsSpec)) gridReadsUptoCard

/-- THE SECOND FORM's CARD OF 'datakitlaw28.GridValues'. -/
def gridValuesUptoCard : Claim7 := { stood := { row := gridValuesUptoRow, standIns := [], harness := (true, "b42e1eeadf448e6f424dc1760dc62a9848c1869bcdce38b15caf858df2801eaf"), looks := false }, kinds := [], alts := [], laidByText := true, laidKinds := [.data, .pinned], laidTests := true, laidLooks := .later }
def GridValuesUptoCardSaid : Prop := Claim7.holds Tryz.pinned (.plain (OpenSpec.upto gridValuesSpec)) gridValuesUptoCard

/-- THE SECOND FORM's CARD OF 'datakitlaw33.DelimstreamParts'. -/
def delimstreamPartsUptoCard : Claim7 := { stood := { row := delimstreamPartsUptoRow, standIns := [], harness := (true, "b42e1eeadf448e6f424dc1760dc62a9848c1869bcdce38b15caf858df2801eaf"), looks := false }, kinds := [], alts := [], laidByText := true, laidKinds := [.data, .pinned], laidTests := true, laidLooks := .later }
def DelimstreamPartsUptoCardSaid : Prop := Claim7.holds Tryz.pinned (.plain (OpenSpec.upto delimstreamPartsSpec)) delimstreamPartsUptoCard

/-- THE SECOND FORM's CARD OF 'datakitlaw28.GridLocates'. -/
def gridLocatesUptoCard : Claim7 := { stood := { row := gridLocatesUptoRow, standIns := [], harness := (true, "b42e1eeadf448e6f424dc1760dc62a9848c1869bcdce38b15caf858df2801eaf"), looks := false }, kinds := [], alts := [], laidByText := true, laidKinds := [.data, .pinned], laidTests := true, laidLooks := .later }
def GridLocatesUptoCardSaid : Prop := Claim7.holds Tryz.pinned (.plain (OpenSpec.upto gridLocatesSpec)) gridLocatesUptoCard

/-- THE SECOND FORM's CARD OF 'datakitlaw28.GridWrites'. -/
def gridWritesUptoCard : Claim7 := { stood := { row := gridWritesUptoRow, standIns := [], harness := (true, "b42e1eeadf448e6f424dc1760dc62a9848c1869bcdce38b15caf858df2801eaf"), looks := false }, kinds := [], alts := [], laidByText := true, laidKinds := [.data, .pinned], laidTests := true, laidLooks := .later }
def GridWritesUptoCardSaid : Prop := Claim7.holds Tryz.pinned (.plain (OpenSpec.upto gridWritesSpec)) gridWritesUptoCard

/-- THE SECOND FORM's CARD OF 'datakitlaw28.GridBack'. -/
def gridBackUptoCard : Claim7 := { stood := { row := gridBackUptoRow, standIns := [], harness := (true, "b42e1eeadf448e6f424dc1760dc62a9848c1869bcdce38b15caf858df2801eaf"), looks := false }, kinds := [], alts := [], laidByText := true, laidKinds := [.data, .pinned], laidTests := true, laidLooks := .later }
def GridBackUptoCardSaid : Prop := Claim7.holds Tryz.pinned (.plain (OpenSpec.upto gridBackSpec)) gridBackUptoCard

/-- THE SECOND FORM's CARD OF 'datakitlaw28.GridLossless'. -/
def gridLosslessUptoCard : Claim7 := { stood := { row := gridLosslessUptoRow, standIns := [], harness := (true, "b42e1eeadf448e6f424dc1760dc62a9848c1869bcdce38b15caf858df2801eaf"), looks := false }, kinds := [], alts := [], laidByText := true, laidKinds := [.data, .pinned], laidTests := true, laidLooks := .later }
def GridLosslessUptoCardSaid : Prop := Claim7.holds Tryz.pinned (.plain (OpenSpec.upto gridLosslessSpec)) gridLosslessUptoCard

/-- THE SECOND FORM's CARD OF 'datakitlaw28.GridAgain'. -/
def gridAgainUptoCard : Claim7 := { stood := { row := gridAgainUptoRow, standIns := [], harness := (true, "b42e1eeadf448e6f424dc1760dc62a9848c1869bcdce38b15caf858df2801eaf"), looks := false }, kinds := [], alts := [], laidByText := true, laidKinds := [.data, .pinned], laidTests := true, laidLooks := .later }
def GridAgainUptoCardSaid : Prop := Claim7.holds Tryz.pinned (.plain (OpenSpec.upto gridAgainSpec)) gridAgainUptoCard
end Rows
end Go.Proofs.YtpfhcnpnngjpnaaGreatDoor
