/-
  DERIVED. GIVEN WITH THE SEED: THE CARDS: each row of YtbbjecpcjdmfgaaGreatDoorRows.lean that lists a variable, with what it lists TIED to the program's text (the seventh form; the later family's looks); each row that meets fmt, with fmt's text TOLD by the authors' own Lean function (tested against real Go, not proved from fmt's source: count such statements apart). THE CARD IS WHAT COUNTS. Prove the row's statement (the work); the ties are given (YtbbjecpcjdmfgaaGreatDoorTie.lean); close each card by the builder's one call (the guide's Derived/Test/ToyasCard.lean, 'card_holds'). Laid BY PROGRAM, IN A SANDBOX (cutbox-door.mjs). By AI agents, Wed Nov 11 2026. No macro, syntax, notation, axiom, sorry.
-/
import Derived.Test.YtbbjecpcjdmfgaaGreatDoorRows
import GoSem.ClaimSeven
namespace Go.Proofs.YtbbjecpcjdmfgaaGreatDoor
namespace Rows

/-- THE TIED CARD OF 'datakitlaw25.SectionBuilds'. -/
def sectionBuildsCard : Claim7 := { stood := { row := sectionBuildsRow, standIns := [], harness := (true, "69dfd2e63f23d93d63a201faf82b02438b7070a18e6797dabe332420033a58dd"), looks := false }, kinds := [], alts := [], laidByText := true, laidKinds := [.data, .pinned], laidTests := true, laidLooks := .later }
def SectionBuildsCardSaid : Prop := Claim7.holds Tryz.pinned (.plain (OpenSpec.ofChange sectionBuildsSpec)) sectionBuildsCard

/-- THE TIED CARD OF 'datakitlaw25.SectionFlattens'. -/
def sectionFlattensCard : Claim7 := { stood := { row := sectionFlattensRow, standIns := [], harness := (true, "69dfd2e63f23d93d63a201faf82b02438b7070a18e6797dabe332420033a58dd"), looks := false }, kinds := [], alts := [], laidByText := true, laidKinds := [.data, .pinned], laidTests := true, laidLooks := .later }
def SectionFlattensCardSaid : Prop := Claim7.holds Tryz.pinned (.plain (OpenSpec.ofChange sectionFlattensSpec)) sectionFlattensCard

/-- THE TIED CARD OF 'datakitlaw25.SectionWhere'. -/
def sectionWhereCard : Claim7 := { stood := { row := sectionWhereRow, standIns := [], harness := (true, "69dfd2e63f23d93d63a201faf82b02438b7070a18e6797dabe332420033a58dd"), looks := false }, kinds := [], alts := [], laidByText := true, laidKinds := [.data, .pinned], laidTests := true, laidLooks := .later }
def SectionWhereCardSaid : Prop := Claim7.holds Tryz.pinned (.plain (OpenSpec.ofChange sectionWhereSpec)) sectionWhereCard

/-- THE TIED CARD OF 'datakitlaw25.SectionValues'. -/
def sectionValuesCard : Claim7 := { stood := { row := sectionValuesRow, standIns := [], harness := (true, "69dfd2e63f23d93d63a201faf82b02438b7070a18e6797dabe332420033a58dd"), looks := false }, kinds := [], alts := [], laidByText := true, laidKinds := [.data, .pinned], laidTests := true, laidLooks := .later }
def SectionValuesCardSaid : Prop := Claim7.holds Tryz.pinned (.plain (OpenSpec.ofChange sectionValuesSpec)) sectionValuesCard

/-- THE SECOND FORM's CARD OF 'datakitlaw25.SectionBuilds'. -/
def sectionBuildsUptoCard : Claim7 := { stood := { row := sectionBuildsUptoRow, standIns := [], harness := (true, "69dfd2e63f23d93d63a201faf82b02438b7070a18e6797dabe332420033a58dd"), looks := false }, kinds := [], alts := [], laidByText := true, laidKinds := [.data, .pinned], laidTests := true, laidLooks := .later }
def SectionBuildsUptoCardSaid : Prop := Claim7.holds Tryz.pinned (.plain (OpenSpec.upto sectionBuildsSpec)) sectionBuildsUptoCard

/-- THE SECOND FORM's CARD OF 'datakitlaw25.SectionFlattens'. -/
def sectionFlattensUptoCard : Claim7 := { stood := { row := sectionFlattensUptoRow, standIns := [], harness := (true, "69dfd2e63f23d93d63a201faf82b02438b7070a18e6797dabe332420033a58dd"), looks := false }, kinds := [], alts := [], laidByText := true, laidKinds := [.data, .pinned], laidTests := true, laidLooks := .later }
def SectionFlattensUptoCardSaid : Prop := Claim7.holds Tryz.pinned (.plain (OpenSpec.upto sectionFlattensSpec)) sectionFlattensUptoCard

/-- THE SECOND FORM's CARD OF 'datakitlaw25.SectionWhere'. -/
def sectionWhereUptoCard : Claim7 := { stood := { row := sectionWhereUptoRow, standIns := [], harness := (true, "69dfd2e63f23d93d63a201faf82b02438b7070a18e6797dabe332420033a58dd"), looks := false }, kinds := [], alts := [], laidByText := true, laidKinds := [.data, .pinned], laidTests := true, laidLooks := .later }
def SectionWhereUptoCardSaid : Prop := Claim7.holds Tryz.pinned (.plain (OpenSpec.upto sectionWhereSpec)) sectionWhereUptoCard

/-- THE SECOND FORM's CARD OF 'datakitlaw25.SectionValues'. -/
def sectionValuesUptoCard : Claim7 := { stood := { row := sectionValuesUptoRow, standIns := [], harness := (true, "69dfd2e63f23d93d63a201faf82b02438b7070a18e6797dabe332420033a58dd"), looks := false }, kinds := [], alts := [], laidByText := true, laidKinds := [.data, .pinned], laidTests := true, laidLooks := .later }
def SectionValuesUptoCardSaid : Prop := Claim7.holds Tryz.pinned (.plain (OpenSpec.upto sectionValuesSpec)) sectionValuesUptoCard
end Rows
end Go.Proofs.YtbbjecpcjdmfgaaGreatDoor
