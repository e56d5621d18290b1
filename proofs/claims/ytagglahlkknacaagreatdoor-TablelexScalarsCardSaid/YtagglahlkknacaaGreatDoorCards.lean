/-
  DERIVED. GIVEN WITH THE SEED: THE CARDS: each row of YtagglahlkknacaaGreatDoorRows.lean that lists a variable, with what it lists TIED to the program's text (the seventh form; the later family's looks); each row that meets fmt, with fmt's text TOLD by the authors' own Lean function (tested against real Go, not proved from fmt's source: count such statements apart). THE CARD IS WHAT COUNTS. Prove the row's statement (the work); the ties are given (YtagglahlkknacaaGreatDoorTie.lean); close each card by the builder's one call (the guide's Derived/Test/ToyasCard.lean, 'card_holds'). Laid BY PROGRAM, IN A SANDBOX (cutbox-door.mjs). By AI agents, Wed Nov 11 2026. No macro, syntax, notation, axiom, sorry.
-/
import Derived.Test.YtagglahlkknacaaGreatDoorRows
import GoSem.ClaimSeven
namespace Go.Proofs.YtagglahlkknacaaGreatDoor
namespace Rows

/-- THE TIED CARD OF 'datakitlaw25.SectionBuilds'. -/
def sectionBuildsCard : Claim7 := { stood := { row := sectionBuildsRow, standIns := [], harness := (true, "69f1a71da0e0f4b95b686644e42cd281ceb5d91210e68ef02baf04436f574298"), looks := false }, kinds := [], alts := [], laidByText := true, laidKinds := [.data, .pinned], laidTests := true, laidLooks := .later }
def SectionBuildsCardSaid : Prop := Claim7.holds Tryz.pinned (.plain (OpenSpec.ofChange sectionBuildsSpec)) sectionBuildsCard

/-- THE TIED CARD OF 'datakitlaw25.SectionFlattens'. -/
def sectionFlattensCard : Claim7 := { stood := { row := sectionFlattensRow, standIns := [], harness := (true, "69f1a71da0e0f4b95b686644e42cd281ceb5d91210e68ef02baf04436f574298"), looks := false }, kinds := [], alts := [], laidByText := true, laidKinds := [.data, .pinned], laidTests := true, laidLooks := .later }
def SectionFlattensCardSaid : Prop := Claim7.holds Tryz.pinned (.plain (OpenSpec.ofChange sectionFlattensSpec)) sectionFlattensCard

/-- THE TIED CARD OF 'datakitlaw25.SectionWhere'. -/
def sectionWhereCard : Claim7 := { stood := { row := sectionWhereRow, standIns := [], harness := (true, "69f1a71da0e0f4b95b686644e42cd281ceb5d91210e68ef02baf04436f574298"), looks := false }, kinds := [], alts := [], laidByText := true, laidKinds := [.data, .pinned], laidTests := true, laidLooks := .later }
def SectionWhereCardSaid : Prop := Claim7.holds Tryz.pinned (.plain (OpenSpec.ofChange sectionWhereSpec)) sectionWhereCard

/-- THE TIED CARD OF 'datakitlaw24.TablelexScalars'. -/
def tablelexScalarsCard : Claim7 := { stood := { row := tablelexScalarsRow, standIns := [], harness := (true, "69f1a71da0e0f4b95b686644e42cd281ceb5d91210e68ef02baf04436f574298"), looks := false }, kinds := [], alts := [], laidByText := true, laidKinds := [.data, .pinned], laidTests := true, laidLooks := .later }
def TablelexScalarsCardSaid : Prop := Claim7.holds Tryz.pinned (.plain (OpenSpec.ofChange tablelexScalarsSpec)) tablelexScalarsCard

/-- THE TIED CARD OF 'datakitlaw24.TablelexShows'. -/
def tablelexShowsCard : Claim7 := { stood := { row := tablelexShowsRow, standIns := [], harness := (true, "69f1a71da0e0f4b95b686644e42cd281ceb5d91210e68ef02baf04436f574298"), looks := false }, kinds := [], alts := [], laidByText := true, laidKinds := [.data, .pinned], laidTests := true, laidLooks := .later }
def TablelexShowsCardSaid : Prop := Claim7.holds Tryz.pinned (.plain (OpenSpec.ofChange tablelexShowsSpec)) tablelexShowsCard

/-- THE TIED CARD OF 'datakitlaw25.SectionValues'. -/
def sectionValuesCard : Claim7 := { stood := { row := sectionValuesRow, standIns := [], harness := (true, "69f1a71da0e0f4b95b686644e42cd281ceb5d91210e68ef02baf04436f574298"), looks := false }, kinds := [], alts := [], laidByText := true, laidKinds := [.data, .pinned], laidTests := true, laidLooks := .later }
def SectionValuesCardSaid : Prop := Claim7.holds Tryz.pinned (.plain (OpenSpec.ofChange sectionValuesSpec)) sectionValuesCard

/-- THE TIED CARD OF 'datakitlaw10.CanonTexts'. -/
def canonTextsCard : Claim7 := { stood := { row := canonTextsRow, standIns := [], harness := (true, "69f1a71da0e0f4b95b686644e42cd281ceb5d91210e68ef02baf04436f574298"), looks := false }, kinds := [], alts := [], laidByText := true, laidKinds := [.data, .pinned], laidTests := true, laidLooks := .later }
def CanonTextsCardSaid : Prop := Claim7.holds Tryz.pinned (.plain (OpenSpec.ofChange canonTextsSpec)) canonTextsCard

/-- THE TIED CARD OF 'datakitlaw10.CanonUnique'. -/
def canonUniqueCard : Claim7 := { stood := { row := canonUniqueRow, standIns := [], harness := (true, "69f1a71da0e0f4b95b686644e42cd281ceb5d91210e68ef02baf04436f574298"), looks := false }, kinds := [], alts := [], laidByText := true, laidKinds := [.data, .pinned], laidTests := true, laidLooks := .later }
def CanonUniqueCardSaid : Prop := Claim7.holds Tryz.pinned (.plain (OpenSpec.ofChange canonUniqueSpec)) canonUniqueCard

/-- THE TIED CARD OF 'datakitlaw24.TablelexBack'. -/
def tablelexBackCard : Claim7 := { stood := { row := tablelexBackRow, standIns := [], harness := (true, "69f1a71da0e0f4b95b686644e42cd281ceb5d91210e68ef02baf04436f574298"), looks := false }, kinds := [], alts := [], laidByText := true, laidKinds := [.data, .pinned], laidTests := true, laidLooks := .later }
def TablelexBackCardSaid : Prop := Claim7.holds Tryz.pinned (.plain (OpenSpec.ofChange tablelexBackSpec)) tablelexBackCard

/-- THE TIED CARD OF 'datakitlaw10.CanonReads'. -/
def canonReadsCard : Claim7 := { stood := { row := canonReadsRow, standIns := [], harness := (true, "69f1a71da0e0f4b95b686644e42cd281ceb5d91210e68ef02baf04436f574298"), looks := false }, kinds := [], alts := [], laidByText := true, laidKinds := [.data, .pinned], laidTests := true, laidLooks := .later }
def CanonReadsCardSaid : Prop := Claim7.holds Tryz.pinned (.plain (OpenSpec.ofChange canonReadsSpec)) canonReadsCard

/-- THE SECOND FORM's CARD OF 'datakitlaw25.SectionBuilds'. -/
def sectionBuildsUptoCard : Claim7 := { stood := { row := sectionBuildsUptoRow, standIns := [], harness := (true, "69f1a71da0e0f4b95b686644e42cd281ceb5d91210e68ef02baf04436f574298"), looks := false }, kinds := [], alts := [], laidByText := true, laidKinds := [.data, .pinned], laidTests := true, laidLooks := .later }
def SectionBuildsUptoCardSaid : Prop := Claim7.holds Tryz.pinned (.plain (OpenSpec.upto sectionBuildsSpec)) sectionBuildsUptoCard

/-- THE SECOND FORM's CARD OF 'datakitlaw25.SectionFlattens'. -/
def sectionFlattensUptoCard : Claim7 := { stood := { row := sectionFlattensUptoRow, standIns := [], harness := (true, "69f1a71da0e0f4b95b686644e42cd281ceb5d91210e68ef02baf04436f574298"), looks := false }, kinds := [], alts := [], laidByText := true, laidKinds := [.data, .pinned], laidTests := true, laidLooks := .later }
def SectionFlattensUptoCardSaid : Prop := Claim7.holds Tryz.pinned (.plain (OpenSpec.upto sectionFlattensSpec)) sectionFlattensUptoCard

/-- THE SECOND FORM's CARD OF 'datakitlaw25.SectionWhere'. -/
def sectionWhereUptoCard : Claim7 := { stood := { row := sectionWhereUptoRow, standIns := [], harness := (true, "69f1a71da0e0f4b95b686644e42cd281ceb5d91210e68ef02baf04436f574298"), looks := false }, kinds := [], alts := [], laidByText := true, laidKinds := [.data, .pinned], laidTests := true, laidLooks := .later }
def SectionWhereUptoCardSaid : Prop := Claim7.holds Tryz.pinned (.plain (OpenSpec.upto sectionWhereSpec)) sectionWhereUptoCard

/-- THE SECOND FORM's CARD OF 'datakitlaw24.TablelexScalars'. -/
def tablelexScalarsUptoCard : Claim7 := { stood := { row := tablelexScalarsUptoRow, standIns := [], harness := (true, "69f1a71da0e0f4b95b686644e42cd281ceb5d91210e68ef02baf04436f574298"), looks := false }, kinds := [], alts := [], laidByText := true, laidKinds := [.data, .pinned], laidTests := true, laidLooks := .later }
def TablelexScalarsUptoCardSaid : Prop := Claim7.holds Tryz.pinned (.plain (OpenSpec.upto tablelexScalarsSpec)) tablelexScalarsUptoCard

/-- THE SECOND FORM's CARD OF 'datakitlaw24.TablelexShows'. -/
def tablelexShowsUptoCard : Claim7 := { stood := { row := tablelexShowsUptoRow, standIns := [], harness := (true, "69f1a71da0e0f4b95b686644e42cd281ceb5d91210e68ef02baf04436f574298"), looks := false }, kinds := [], alts := [], laidByText := true, laidKinds := [.data, .pinned], laidTests := true, laidLooks := .later }
def TablelexShowsUptoCardSaid : Prop := Claim7.holds Tryz.pinned (.plain (OpenSpec.upto tablelexShowsSpec)) tablelexShowsUptoCard

/-- THE SECOND FORM's CARD OF 'datakitlaw25.SectionValues'. -/
def sectionValuesUptoCard : Claim7 := { stood := { row := sectionValuesUptoRow, standIns := [], harness := (true, "69f1a71da0e0f4b95b686644e42cd281ceb5d91210e68ef02baf04436f574298"), looks := false }, kinds := [], alts := [], laidByText := true, laidKinds := [.data, .pinned], laidTests := true, laidLooks := .later }
def SectionValuesUptoCardSaid : Prop := Claim7.holds Tryz.pinned (.plain (OpenSpec.upto sectionValuesSpec)) sectionValuesUptoCard

/-- THE SECOND FORM's CARD OF 'datakitlaw10.CanonTexts'. -/
def canonTextsUptoCard : Claim7 := { stood := { row := canonTextsUptoRow, standIns := [], harness := (true, "69f1a71da0e0f4b95b686644e42cd281ceb5d91210e68ef02baf04436f574298"), looks := false }, kinds := [], alts := [], laidByText := true, laidKinds := [.data, .pinned], laidTests := true, laidLooks := .later }
def CanonTextsUptoCardSaid : Prop := Claim7.holds Tryz.pinned (.plain (OpenSpec.upto canonTextsSpec)) canonTextsUptoCard

/-- THE SECOND FORM's CARD OF 'datakitlaw10.CanonUnique'. -/
def canonUniqueUptoCard : Claim7 := { stood := { row := canonUniqueUptoRow, standIns := [], harness := (true, "69f1a71da0e0f4b95b686644e42cd281ceb5d91210e68ef02baf04436f574298"), looks := false }, kinds := [], alts := [], laidByText := true, laidKinds := [.data, .pinned], laidTests := true, laidLooks := .later }
def CanonUniqueUptoCardSaid : Prop := Claim7.holds Tryz.pinned (.plain (OpenSpec.upto canonUniqueSpec)) canonUniqueUptoCard

/-- THE SECOND FORM's CARD OF 'datakitlaw24.TablelexBack'. -/
def tablelexBackUptoCard : Claim7 := { stood := { row := tablelexBackUptoRow, standIns := [], harness := (true, "69f1a71da0e0f4b95b686644e42cd281ceb5d91210e68ef02baf04436f574298"), looks := false }, kinds := [], alts := [], laidByText := true, laidKinds := [.data, .pinned], laidTests := true, laidLooks := .later }
def TablelexBackUptoCardSaid : Prop := Claim7.holds Tryz.pinned (.plain (OpenSpec.upto tablelexBackSpec)) tablelexBackUptoCard

/-- THE SECOND FORM's CARD OF 'datakitlaw10.CanonReads'. -/
def canonReadsUptoCard : Claim7 := { stood := { row := canonReadsUptoRow, standIns := [], harness := (true, "69f1a71da0e0f4b95b686644e42cd281ceb5d91210e68ef02baf04436f574298"), looks := false }, kinds := [], alts := [], laidByText := true, laidKinds := [.data, .pinned], laidTests := true, laidLooks := .later }
def CanonReadsUptoCardSaid : Prop := Claim7.holds Tryz.pinned (.plain (OpenSpec.upto canonReadsSpec)) canonReadsUptoCard
end Rows
end Go.Proofs.YtagglahlkknacaaGreatDoor
