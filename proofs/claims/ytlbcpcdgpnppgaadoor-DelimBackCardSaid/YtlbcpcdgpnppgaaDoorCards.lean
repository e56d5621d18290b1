/-
  DERIVED. GIVEN WITH THE SEED: THE CARDS: each row of YtlbcpcdgpnppgaaDoorRows.lean that lists a variable, with what it lists TIED to the program's text (the seventh form; the later family's looks); each row that meets fmt, with fmt's text TOLD by the authors' own Lean function (tested against real Go, not proved from fmt's source: count such statements apart). THE CARD IS WHAT COUNTS. Prove the row's statement (the work); the ties are given (YtlbcpcdgpnppgaaDoorTie.lean); close each card by the builder's one call (the guide's Derived/Test/ToyasCard.lean, 'card_holds'). Laid BY PROGRAM, IN A SANDBOX (cutbox-door.mjs). By AI agents, Wed Nov 11 2026. No macro, syntax, notation, axiom, sorry.
-/
import Derived.Test.YtlbcpcdgpnppgaaDoorRows
import GoSem.ClaimSeven
namespace Go.Proofs.YtlbcpcdgpnppgaaDoor
namespace Rows

/-- THE TIED CARD OF 'datakitlaw24.TablelexNexts'. -/
def tablelexNextsCard : Claim7 := { stood := { row := tablelexNextsRow, standIns := [], harness := (true, "05786d2a3715472c9c9f2183c5799be02b05e75bf8ff1c2aeeecf5ce1a402ae4"), looks := false }, kinds := [], alts := [], laidByText := true, laidKinds := [.data, .pinned], laidTests := true, laidLooks := .later }
def TablelexNextsCardSaid : Prop := Claim7.holds Tryd.pinned (.plain (OpenSpec.ofChange tablelexNextsSpec)) tablelexNextsCard

/-- THE TIED CARD OF 'datakitlaw24.TablelexQuotes'. -/
def tablelexQuotesCard : Claim7 := { stood := { row := tablelexQuotesRow, standIns := [], harness := (true, "05786d2a3715472c9c9f2183c5799be02b05e75bf8ff1c2aeeecf5ce1a402ae4"), looks := false }, kinds := [], alts := [], laidByText := true, laidKinds := [.data, .pinned], laidTests := true, laidLooks := .later }
def TablelexQuotesCardSaid : Prop := Claim7.holds Tryd.pinned (.plain (OpenSpec.ofChange tablelexQuotesSpec)) tablelexQuotesCard

/-- THE TIED CARD OF 'datakitlaw24.TablelexTokens'. -/
def tablelexTokensCard : Claim7 := { stood := { row := tablelexTokensRow, standIns := [], harness := (true, "05786d2a3715472c9c9f2183c5799be02b05e75bf8ff1c2aeeecf5ce1a402ae4"), looks := false }, kinds := [], alts := [], laidByText := true, laidKinds := [.data, .pinned], laidTests := true, laidLooks := .later }
def TablelexTokensCardSaid : Prop := Claim7.holds Tryd.pinned (.plain (OpenSpec.ofChange tablelexTokensSpec)) tablelexTokensCard

/-- THE TIED CARD OF 'datakitlaw24.TablelexCut'. -/
def tablelexCutCard : Claim7 := { stood := { row := tablelexCutRow, standIns := [], harness := (true, "05786d2a3715472c9c9f2183c5799be02b05e75bf8ff1c2aeeecf5ce1a402ae4"), looks := false }, kinds := [], alts := [], laidByText := true, laidKinds := [.data, .pinned], laidTests := true, laidLooks := .later }
def TablelexCutCardSaid : Prop := Claim7.holds Tryd.pinned (.plain (OpenSpec.ofChange tablelexCutSpec)) tablelexCutCard

/-- THE TIED CARD OF 'datakitlaw24.TablelexJoin'. -/
def tablelexJoinCard : Claim7 := { stood := { row := tablelexJoinRow, standIns := [], harness := (true, "05786d2a3715472c9c9f2183c5799be02b05e75bf8ff1c2aeeecf5ce1a402ae4"), looks := false }, kinds := [], alts := [], laidByText := true, laidKinds := [.data, .pinned], laidTests := true, laidLooks := .later }
def TablelexJoinCardSaid : Prop := Claim7.holds Tryd.pinned (.plain (OpenSpec.ofChange tablelexJoinSpec)) tablelexJoinCard

/-- THE TIED CARD OF 'datakitlaw27.DelimLossless'. -/
def delimLosslessCard : Claim7 := { stood := { row := delimLosslessRow, standIns := [], harness := (true, "05786d2a3715472c9c9f2183c5799be02b05e75bf8ff1c2aeeecf5ce1a402ae4"), looks := false }, kinds := [], alts := [], laidByText := true, laidKinds := [.data, .pinned], laidTests := true, laidLooks := .later }
def DelimLosslessCardSaid : Prop := Claim7.holds Tryd.pinned (.plain (OpenSpec.ofChange delimLosslessSpec)) delimLosslessCard

/-- THE TIED CARD OF 'datakitlaw27.DelimLimits'. -/
def delimLimitsCard : Claim7 := { stood := { row := delimLimitsRow, standIns := [], harness := (true, "05786d2a3715472c9c9f2183c5799be02b05e75bf8ff1c2aeeecf5ce1a402ae4"), looks := false }, kinds := [], alts := [], laidByText := true, laidKinds := [.data, .pinned], laidTests := true, laidLooks := .later }
def DelimLimitsCardSaid : Prop := Claim7.holds Tryd.pinned (.plain (OpenSpec.ofChange delimLimitsSpec)) delimLimitsCard

/-- THE TIED CARD OF 'datakitlaw27.DelimParses'. -/
def delimParsesCard : Claim7 := { stood := { row := delimParsesRow, standIns := [], harness := (true, "05786d2a3715472c9c9f2183c5799be02b05e75bf8ff1c2aeeecf5ce1a402ae4"), looks := false }, kinds := [], alts := [], laidByText := true, laidKinds := [.data, .pinned], laidTests := true, laidLooks := .later }
def DelimParsesCardSaid : Prop := Claim7.holds Tryd.pinned (.plain (OpenSpec.ofChange delimParsesSpec)) delimParsesCard

/-- THE TIED CARD OF 'datakitlaw27.DelimRecords'. -/
def delimRecordsCard : Claim7 := { stood := { row := delimRecordsRow, standIns := [], harness := (true, "05786d2a3715472c9c9f2183c5799be02b05e75bf8ff1c2aeeecf5ce1a402ae4"), looks := false }, kinds := [], alts := [], laidByText := true, laidKinds := [.data, .pinned], laidTests := true, laidLooks := .later }
def DelimRecordsCardSaid : Prop := Claim7.holds Tryd.pinned (.plain (OpenSpec.ofChange delimRecordsSpec)) delimRecordsCard

/-- THE TIED CARD OF 'datakitlaw27.DelimSniffs'. -/
def delimSniffsCard : Claim7 := { stood := { row := delimSniffsRow, standIns := [], harness := (true, "05786d2a3715472c9c9f2183c5799be02b05e75bf8ff1c2aeeecf5ce1a402ae4"), looks := false }, kinds := [], alts := [], laidByText := true, laidKinds := [.data, .pinned], laidTests := true, laidLooks := .later }
def DelimSniffsCardSaid : Prop := Claim7.holds Tryd.pinned (.plain (OpenSpec.ofChange delimSniffsSpec)) delimSniffsCard

/-- THE TIED CARD OF 'datakitlaw27.DelimTexts'. -/
def delimTextsCard : Claim7 := { stood := { row := delimTextsRow, standIns := [], harness := (true, "05786d2a3715472c9c9f2183c5799be02b05e75bf8ff1c2aeeecf5ce1a402ae4"), looks := false }, kinds := [], alts := [], laidByText := true, laidKinds := [.data, .pinned], laidTests := true, laidLooks := .later }
def DelimTextsCardSaid : Prop := Claim7.holds Tryd.pinned (.plain (OpenSpec.ofChange delimTextsSpec)) delimTextsCard

/-- THE TIED CARD OF 'datakitlaw27.DelimBack'. -/
def delimBackCard : Claim7 := { stood := { row := delimBackRow, standIns := [], harness := (true, "05786d2a3715472c9c9f2183c5799be02b05e75bf8ff1c2aeeecf5ce1a402ae4"), looks := false }, kinds := [], alts := [], laidByText := true, laidKinds := [.data, .pinned], laidTests := true, laidLooks := .later }
def DelimBackCardSaid : Prop := Claim7.holds Tryd.pinned (.plain (OpenSpec.ofChange delimBackSpec)) delimBackCard

/-- THE SECOND FORM's CARD OF 'datakitlaw24.TablelexNexts'. -/
def tablelexNextsUptoCard : Claim7 := { stood := { row := tablelexNextsUptoRow, standIns := [], harness := (true, "05786d2a3715472c9c9f2183c5799be02b05e75bf8ff1c2aeeecf5ce1a402ae4"), looks := false }, kinds := [], alts := [], laidByText := true, laidKinds := [.data, .pinned], laidTests := true, laidLooks := .later }
def TablelexNextsUptoCardSaid : Prop := Claim7.holds Tryd.pinned (.plain (OpenSpec.upto tablelexNextsSpec)) tablelexNextsUptoCard

/-- THE SECOND FORM's CARD OF 'datakitlaw24.TablelexQuotes'. -/
def tablelexQuotesUptoCard : Claim7 := { stood := { row := tablelexQuotesUptoRow, standIns := [], harness := (true, "05786d2a3715472c9c9f2183c5799be02b05e75bf8ff1c2aeeecf5ce1a402ae4"), looks := false }, kinds := [], alts := [], laidByText := true, laidKinds := [.data, .pinned], laidTests := true, laidLooks := .later }
def TablelexQuotesUptoCardSaid : Prop := Claim7.holds Tryd.pinned (.plain (OpenSpec.upto tablelexQuotesSpec)) tablelexQuotesUptoCard

/-- THE SECOND FORM's CARD OF 'datakitlaw24.TablelexTokens'. -/
def tablelexTokensUptoCard : Claim7 := { stood := { row := tablelexTokensUptoRow, standIns := [], harness := (true, "05786d2a3715472c9c9f2183c5799be02b05e75bf8ff1c2aeeecf5ce1a402ae4"), looks := false }, kinds := [], alts := [], laidByText := true, laidKinds := [.data, .pinned], laidTests := true, laidLooks := .later }
def TablelexTokensUptoCardSaid : Prop := Claim7.holds Tryd.pinned (.plain (OpenSpec.upto tablelexTokensSpec)) tablelexTokensUptoCard

/-- THE SECOND FORM's CARD OF 'datakitlaw24.TablelexCut'. -/
def tablelexCutUptoCard : Claim7 := { stood := { row := tablelexCutUptoRow, standIns := [], harness := (true, "05786d2a3715472c9c9f2183c5799be02b05e75bf8ff1c2aeeecf5ce1a402ae4"), looks := false }, kinds := [], alts := [], laidByText := true, laidKinds := [.data, .pinned], laidTests := true, laidLooks := .later }
def TablelexCutUptoCardSaid : Prop := Claim7.holds Tryd.pinned (.plain (OpenSpec.upto tablelexCutSpec)) tablelexCutUptoCard

/-- THE SECOND FORM's CARD OF 'datakitlaw24.TablelexJoin'. -/
def tablelexJoinUptoCard : Claim7 := { stood := { row := tablelexJoinUptoRow, standIns := [], harness := (true, "05786d2a3715472c9c9f2183c5799be02b05e75bf8ff1c2aeeecf5ce1a402ae4"), looks := false }, kinds := [], alts := [], laidByText := true, laidKinds := [.data, .pinned], laidTests := true, laidLooks := .later }
def TablelexJoinUptoCardSaid : Prop := Claim7.holds Tryd.pinned (.plain (OpenSpec.upto tablelexJoinSpec)) tablelexJoinUptoCard

/-- THE SECOND FORM's CARD OF 'datakitlaw27.DelimLossless'. -/
def delimLosslessUptoCard : Claim7 := { stood := { row := delimLosslessUptoRow, standIns := [], harness := (true, "05786d2a3715472c9c9f2183c5799be02b05e75bf8ff1c2aeeecf5ce1a402ae4"), looks := false }, kinds := [], alts := [], laidByText := true, laidKinds := [.data, .pinned], laidTests := true, laidLooks := .later }
def DelimLosslessUptoCardSaid : Prop := Claim7.holds Tryd.pinned (.plain (OpenSpec.upto delimLosslessSpec)) delimLosslessUptoCard

/-- THE SECOND FORM's CARD OF 'datakitlaw27.DelimLimits'. -/
def delimLimitsUptoCard : Claim7 := { stood := { row := delimLimitsUptoRow, standIns := [], harness := (true, "05786d2a3715472c9c9f2183c5799be02b05e75bf8ff1c2aeeecf5ce1a402ae4"), looks := false }, kinds := [], alts := [], laidByText := true, laidKinds := [.data, .pinned], laidTests := true, laidLooks := .later }
def DelimLimitsUptoCardSaid : Prop := Claim7.holds Tryd.pinned (.plain (OpenSpec.upto delimLimitsSpec)) delimLimitsUptoCard

/-- THE SECOND FORM's CARD OF 'datakitlaw27.DelimParses'. -/
def delimParsesUptoCard : Claim7 := { stood := { row := delimParsesUptoRow, standIns := [], harness := (true, "05786d2a3715472c9c9f2183c5799be02b05e75bf8ff1c2aeeecf5ce1a402ae4"), looks := false }, kinds := [], alts := [], laidByText := true, laidKinds := [.data, .pinned], laidTests := true, laidLooks := .later }
def DelimParsesUptoCardSaid : Prop := Claim7.holds Tryd.pinned (.plain (OpenSpec.upto delimParsesSpec)) delimParsesUptoCard

/-- THE SECOND FORM's CARD OF 'datakitlaw27.DelimRecords'. -/
def delimRecordsUptoCard : Claim7 := { stood := { row := delimRecordsUptoRow, standIns := [], harness := (true, "05786d2a3715472c9c9f2183c5799be02b05e75bf8ff1c2aeeecf5ce1a402ae4"), looks := false }, kinds := [], alts := [], laidByText := true, laidKinds := [.data, .pinned], laidTests := true, laidLooks := .later }
def DelimRecordsUptoCardSaid : Prop := Claim7.holds Tryd.pinned (.plain (OpenSpec.upto delimRecordsSpec)) delimRecordsUptoCard

/-- THE SECOND FORM's CARD OF 'datakitlaw27.DelimSniffs'. -/
def delimSniffsUptoCard : Claim7 := { stood := { row := delimSniffsUptoRow, standIns := [], harness := (true, "05786d2a3715472c9c9f2183c5799be02b05e75bf8ff1c2aeeecf5ce1a402ae4"), looks := false }, kinds := [], alts := [], laidByText := true, laidKinds := [.data, .pinned], laidTests := true, laidLooks := .later }
def DelimSniffsUptoCardSaid : Prop := Claim7.holds Tryd.pinned (.plain (OpenSpec.upto delimSniffsSpec)) delimSniffsUptoCard

/-- THE SECOND FORM's CARD OF 'datakitlaw27.DelimTexts'. -/
def delimTextsUptoCard : Claim7 := { stood := { row := delimTextsUptoRow, standIns := [], harness := (true, "05786d2a3715472c9c9f2183c5799be02b05e75bf8ff1c2aeeecf5ce1a402ae4"), looks := false }, kinds := [], alts := [], laidByText := true, laidKinds := [.data, .pinned], laidTests := true, laidLooks := .later }
def DelimTextsUptoCardSaid : Prop := Claim7.holds Tryd.pinned (.plain (OpenSpec.upto delimTextsSpec)) delimTextsUptoCard

/-- THE SECOND FORM's CARD OF 'datakitlaw27.DelimBack'. -/
def delimBackUptoCard : Claim7 := { stood := { row := delimBackUptoRow, standIns := [], harness := (true, "05786d2a3715472c9c9f2183c5799be02b05e75bf8ff1c2aeeecf5ce1a402ae4"), looks := false }, kinds := [], alts := [], laidByText := true, laidKinds := [.data, .pinned], laidTests := true, laidLooks := .later }
def DelimBackUptoCardSaid : Prop := Claim7.holds Tryd.pinned (.plain (OpenSpec.upto delimBackSpec)) delimBackUptoCard
end Rows
end Go.Proofs.YtlbcpcdgpnppgaaDoor
