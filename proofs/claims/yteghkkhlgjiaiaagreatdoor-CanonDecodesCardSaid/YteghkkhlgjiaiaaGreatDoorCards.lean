/-
  DERIVED. GIVEN WITH THE SEED: THE CARDS: each row of YteghkkhlgjiaiaaGreatDoorRows.lean that lists a variable, with what it lists TIED to the program's text (the seventh form; the later family's looks); each row that meets fmt, with fmt's text TOLD by the authors' own Lean function (tested against real Go, not proved from fmt's source: count such statements apart). THE CARD IS WHAT COUNTS. Prove the row's statement (the work); the ties are given (YteghkkhlgjiaiaaGreatDoorTie.lean); close each card by the builder's one call (the guide's Derived/Test/ToyasCard.lean, 'card_holds'). Laid BY PROGRAM, IN A SANDBOX (cutbox-door.mjs). By AI agents, Wed Nov 11 2026. No macro, syntax, notation, axiom, sorry.
-/
import Derived.Test.YteghkkhlgjiaiaaGreatDoorRows
import GoSem.ClaimSeven
namespace Go.Proofs.YteghkkhlgjiaiaaGreatDoor
namespace Rows

/-- THE TIED CARD OF 'datakitlaw10.CanonDecodes'. -/
def canonDecodesCard : Claim7 := { stood := { row := canonDecodesRow, standIns := [], harness := (true, "375a9394c992020c9c0d4976601d9a3adfee44112a6e04c52c0ec8e0f5b1af38"), looks := false }, kinds := [], alts := [], laidByText := true, laidKinds := [.data, .pinned], laidTests := true, laidLooks := .later }
def CanonDecodesCardSaid : Prop := Claim7.holds Tryz.pinned (.plain (OpenSpec.ofChange canonDecodesSpec)) canonDecodesCard

/-- THE TIED CARD OF 'datakitlaw07.ValueCopies'. -/
def valueCopiesCard : Claim7 := { stood := { row := valueCopiesRow, standIns := [], harness := (true, "375a9394c992020c9c0d4976601d9a3adfee44112a6e04c52c0ec8e0f5b1af38"), looks := false }, kinds := [], alts := [], laidByText := true, laidKinds := [.data, .pinned], laidTests := true, laidLooks := .later }
def ValueCopiesCardSaid : Prop := Claim7.holds Tryz.pinned (.plain (OpenSpec.ofChange valueCopiesSpec)) valueCopiesCard

/-- THE TIED CARD OF 'datakitlaw07.ValueLooks'. -/
def valueLooksCard : Claim7 := { stood := { row := valueLooksRow, standIns := [], harness := (true, "375a9394c992020c9c0d4976601d9a3adfee44112a6e04c52c0ec8e0f5b1af38"), looks := false }, kinds := [], alts := [], laidByText := true, laidKinds := [.data, .pinned], laidTests := true, laidLooks := .later }
def ValueLooksCardSaid : Prop := Claim7.holds Tryz.pinned (.plain (OpenSpec.ofChange valueLooksSpec)) valueLooksCard

/-- THE TIED CARD OF 'datakitlaw07.ValueCompares'. -/
def valueComparesCard : Claim7 := { stood := { row := valueComparesRow, standIns := [], harness := (true, "375a9394c992020c9c0d4976601d9a3adfee44112a6e04c52c0ec8e0f5b1af38"), looks := false }, kinds := [], alts := [], laidByText := true, laidKinds := [.data, .pinned], laidTests := true, laidLooks := .later }
def ValueComparesCardSaid : Prop := Claim7.holds Tryz.pinned (.plain (OpenSpec.ofChange valueComparesSpec)) valueComparesCard

/-- THE TIED CARD OF 'datakitlaw07.ValueOrder'. -/
def valueOrderCard : Claim7 := { stood := { row := valueOrderRow, standIns := [], harness := (true, "375a9394c992020c9c0d4976601d9a3adfee44112a6e04c52c0ec8e0f5b1af38"), looks := false }, kinds := [], alts := [], laidByText := true, laidKinds := [.data, .pinned], laidTests := true, laidLooks := .later }
def ValueOrderCardSaid : Prop := Claim7.holds Tryz.pinned (.plain (OpenSpec.ofChange valueOrderSpec)) valueOrderCard

/-- THE TIED CARD OF 'datakitlaw10.CanonTexts'. -/
def canonTextsCard : Claim7 := { stood := { row := canonTextsRow, standIns := [], harness := (true, "375a9394c992020c9c0d4976601d9a3adfee44112a6e04c52c0ec8e0f5b1af38"), looks := false }, kinds := [], alts := [], laidByText := true, laidKinds := [.data, .pinned], laidTests := true, laidLooks := .later }
def CanonTextsCardSaid : Prop := Claim7.holds Tryz.pinned (.plain (OpenSpec.ofChange canonTextsSpec)) canonTextsCard

/-- THE TIED CARD OF 'datakitlaw07.ValueSorts'. -/
def valueSortsCard : Claim7 := { stood := { row := valueSortsRow, standIns := [], harness := (true, "375a9394c992020c9c0d4976601d9a3adfee44112a6e04c52c0ec8e0f5b1af38"), looks := false }, kinds := [], alts := [], laidByText := true, laidKinds := [.data, .pinned], laidTests := true, laidLooks := .later }
def ValueSortsCardSaid : Prop := Claim7.holds Tryz.pinned (.plain (OpenSpec.ofChange valueSortsSpec)) valueSortsCard

/-- THE TIED CARD OF 'datakitlaw07.ValueChecks'. -/
def valueChecksCard : Claim7 := { stood := { row := valueChecksRow, standIns := [], harness := (true, "375a9394c992020c9c0d4976601d9a3adfee44112a6e04c52c0ec8e0f5b1af38"), looks := false }, kinds := [], alts := [], laidByText := true, laidKinds := [.data, .pinned], laidTests := true, laidLooks := .later }
def ValueChecksCardSaid : Prop := Claim7.holds Tryz.pinned (.plain (OpenSpec.ofChange valueChecksSpec)) valueChecksCard

/-- THE TIED CARD OF 'datakitlaw10.CanonUnique'. -/
def canonUniqueCard : Claim7 := { stood := { row := canonUniqueRow, standIns := [], harness := (true, "375a9394c992020c9c0d4976601d9a3adfee44112a6e04c52c0ec8e0f5b1af38"), looks := false }, kinds := [], alts := [], laidByText := true, laidKinds := [.data, .pinned], laidTests := true, laidLooks := .later }
def CanonUniqueCardSaid : Prop := Claim7.holds Tryz.pinned (.plain (OpenSpec.ofChange canonUniqueSpec)) canonUniqueCard

/-- THE TIED CARD OF 'datakitlaw10.CanonReads'. -/
def canonReadsCard : Claim7 := { stood := { row := canonReadsRow, standIns := [], harness := (true, "375a9394c992020c9c0d4976601d9a3adfee44112a6e04c52c0ec8e0f5b1af38"), looks := false }, kinds := [], alts := [], laidByText := true, laidKinds := [.data, .pinned], laidTests := true, laidLooks := .later }
def CanonReadsCardSaid : Prop := Claim7.holds Tryz.pinned (.plain (OpenSpec.ofChange canonReadsSpec)) canonReadsCard

/-- THE SECOND FORM's CARD OF 'datakitlaw10.CanonDecodes'. -/
def canonDecodesUptoCard : Claim7 := { stood := { row := canonDecodesUptoRow, standIns := [], harness := (true, "375a9394c992020c9c0d4976601d9a3adfee44112a6e04c52c0ec8e0f5b1af38"), looks := false }, kinds := [], alts := [], laidByText := true, laidKinds := [.data, .pinned], laidTests := true, laidLooks := .later }
def CanonDecodesUptoCardSaid : Prop := Claim7.holds Tryz.pinned (.plain (OpenSpec.upto canonDecodesSpec)) canonDecodesUptoCard

/-- THE SECOND FORM's CARD OF 'datakitlaw07.ValueCopies'. -/
def valueCopiesUptoCard : Claim7 := { stood := { row := valueCopiesUptoRow, standIns := [], harness := (true, "375a9394c992020c9c0d4976601d9a3adfee44112a6e04c52c0ec8e0f5b1af38"), looks := false }, kinds := [], alts := [], laidByText := true, laidKinds := [.data, .pinned], laidTests := true, laidLooks := .later }
def ValueCopiesUptoCardSaid : Prop := Claim7.holds Tryz.pinned (.plain (OpenSpec.upto valueCopiesSpec)) valueCopiesUptoCard

/-- THE SECOND FORM's CARD OF 'datakitlaw07.ValueLooks'. -/
def valueLooksUptoCard : Claim7 := { stood := { row := valueLooksUptoRow, standIns := [], harness := (true, "375a9394c992020c9c0d4976601d9a3adfee44112a6e04c52c0ec8e0f5b1af38"), looks := false }, kinds := [], alts := [], laidByText := true, laidKinds := [.data, .pinned], laidTests := true, laidLooks := .later }
def ValueLooksUptoCardSaid : Prop := Claim7.holds Tryz.pinned (.plain (OpenSpec.upto valueLooksSpec)) valueLooksUptoCard

/-- THE SECOND FORM's CARD OF 'datakitlaw07.ValueCompares'. -/
def valueComparesUptoCard : Claim7 := { stood := { row := valueComparesUptoRow, standIns := [], harness := (true, "375a9394c992020c9c0d4976601d9a3adfee44112a6e04c52c0ec8e0f5b1af38"), looks := false }, kinds := [], alts := [], laidByText := true, laidKinds := [.data, .pinned], laidTests := true, laidLooks := .later }
def ValueComparesUptoCardSaid : Prop := Claim7.holds Tryz.pinned (.plain (OpenSpec.upto valueComparesSpec)) valueComparesUptoCard

/-- THE SECOND FORM's CARD OF 'datakitlaw07.ValueOrder'. -/
def valueOrderUptoCard : Claim7 := { stood := { row := valueOrderUptoRow, standIns := [], harness := (true, "375a9394c992020c9c0d4976601d9a3adfee44112a6e04c52c0ec8e0f5b1af38"), looks := false }, kinds := [], alts := [], laidByText := true, laidKinds := [.data, .pinned], laidTests := true, laidLooks := .later }
def ValueOrderUptoCardSaid : Prop := Claim7.holds Tryz.pinned (.plain (OpenSpec.upto valueOrderSpec)) valueOrderUptoCard

/-- THE SECOND FORM's CARD OF 'datakitlaw10.CanonTexts'. -/
def canonTextsUptoCard : Claim7 := { stood := { row := canonTextsUptoRow, standIns := [], harness := (true, "375a9394c992020c9c0d4976601d9a3adfee44112a6e04c52c0ec8e0f5b1af38"), looks := false }, kinds := [], alts := [], laidByText := true, laidKinds := [.data, .pinned], laidTests := true, laidLooks := .later }
def CanonTextsUptoCardSaid : Prop := Claim7.holds Tryz.pinned (.plain (OpenSpec.upto canonTextsSpec)) canonTextsUptoCard

/-- THE SECOND FORM's CARD OF 'datakitlaw07.ValueSorts'. -/
def valueSortsUptoCard : Claim7 := { stood := { row := valueSortsUptoRow, standIns := [], harness := (true, "375a9394c992020c9c0d4976601d9a3adfee44112a6e04c52c0ec8e0f5b1af38"), looks := false }, kinds := [], alts := [], laidByText := true, laidKinds := [.data, .pinned], laidTests := true, laidLooks := .later }
def ValueSortsUptoCardSaid : Prop := Claim7.holds Tryz.pinned (.plain (OpenSpec.upto valueSortsSpec)) valueSortsUptoCard

/-- THE SECOND FORM's CARD OF 'datakitlaw07.ValueChecks'. -/
def valueChecksUptoCard : Claim7 := { stood := { row := valueChecksUptoRow, standIns := [], harness := (true, "375a9394c992020c9c0d4976601d9a3adfee44112a6e04c52c0ec8e0f5b1af38"), looks := false }, kinds := [], alts := [], laidByText := true, laidKinds := [.data, .pinned], laidTests := true, laidLooks := .later }
def ValueChecksUptoCardSaid : Prop := Claim7.holds Tryz.pinned (.plain (OpenSpec.upto valueChecksSpec)) valueChecksUptoCard

/-- THE SECOND FORM's CARD OF 'datakitlaw10.CanonUnique'. -/
def canonUniqueUptoCard : Claim7 := { stood := { row := canonUniqueUptoRow, standIns := [], harness := (true, "375a9394c992020c9c0d4976601d9a3adfee44112a6e04c52c0ec8e0f5b1af38"), looks := false }, kinds := [], alts := [], laidByText := true, laidKinds := [.data, .pinned], laidTests := true, laidLooks := .later }
def CanonUniqueUptoCardSaid : Prop := Claim7.holds Tryz.pinned (.plain (OpenSpec.upto canonUniqueSpec)) canonUniqueUptoCard

/-- THE SECOND FORM's CARD OF 'datakitlaw10.CanonReads'. -/
def canonReadsUptoCard : Claim7 := { stood := { row := canonReadsUptoRow, standIns := [], harness := (true, "375a9394c992020c9c0d4976601d9a3adfee44112a6e04c52c0ec8e0f5b1af38"), looks := false }, kinds := [], alts := [], laidByText := true, laidKinds := [.data, .pinned], laidTests := true, laidLooks := .later }
def CanonReadsUptoCardSaid : Prop := Claim7.holds Tryz.pinned (.plain (OpenSpec.upto canonReadsSpec)) canonReadsUptoCard
end Rows
end Go.Proofs.YteghkkhlgjiaiaaGreatDoor
