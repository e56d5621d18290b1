/-
  DERIVED. GIVEN WITH THE SEED: THE CARDS: each row of YtahjbepjlconkaaGreatDoorRows.lean that lists a variable, with what it lists TIED to the program's text (the seventh form; the later family's looks); each row that meets fmt, with fmt's text TOLD by the authors' own Lean function (tested against real Go, not proved from fmt's source: count such statements apart). THE CARD IS WHAT COUNTS. Prove the row's statement (the work); the ties are given (YtahjbepjlconkaaGreatDoorTie.lean); close each card by the builder's one call (the guide's Derived/Test/ToyasCard.lean, 'card_holds'). Laid BY PROGRAM, IN A SANDBOX (cutbox-door.mjs). By AI agents, Wed Nov 11 2026. No macro, syntax, notation, axiom, sorry.
-/
import Derived.Test.YtahjbepjlconkaaGreatDoorRows
import GoSem.ClaimSeven
namespace Go.Proofs.YtahjbepjlconkaaGreatDoor
namespace Rows

/-- THE TIED CARD OF 'datakitlaw26.TableReads'. -/
def tableReadsCard : Claim7 := { stood := { row := tableReadsRow, standIns := [], harness := (true, "aa6bb6aad852921d87484d68c2e6282d291e1f28e3baa43d9d5959ccca60f763"), looks := true }, kinds := [], alts := [], laidByText := true, laidKinds := [.data, .pinned], laidTests := true, laidLooks := .later }
def TableReadsCardSaid : Prop := Claim7.holds Tryz.pinned (.plain (OpenSpec.ofChange tableReadsSpec)) tableReadsCard

/-- THE TIED CARD OF 'datakitlaw26.TableParses'. -/
def tableParsesCard : Claim7 := { stood := { row := tableParsesRow, standIns := [], harness := (true, "aa6bb6aad852921d87484d68c2e6282d291e1f28e3baa43d9d5959ccca60f763"), looks := true }, kinds := [], alts := [], laidByText := true, laidKinds := [.data, .pinned], laidTests := true, laidLooks := .later }
def TableParsesCardSaid : Prop := Claim7.holds Tryz.pinned (.plain (OpenSpec.ofChange tableParsesSpec)) tableParsesCard

/-- THE TIED CARD OF 'datakitlaw26.TableLimits'. -/
def tableLimitsCard : Claim7 := { stood := { row := tableLimitsRow, standIns := [], harness := (true, "aa6bb6aad852921d87484d68c2e6282d291e1f28e3baa43d9d5959ccca60f763"), looks := true }, kinds := [], alts := [], laidByText := true, laidKinds := [.data, .pinned], laidTests := true, laidLooks := .later }
def TableLimitsCardSaid : Prop := Claim7.holds Tryz.pinned (.plain (OpenSpec.ofChange tableLimitsSpec)) tableLimitsCard

/-- THE TIED CARD OF 'datakitlaw26.TableValues'. -/
def tableValuesCard : Claim7 := { stood := { row := tableValuesRow, standIns := [], harness := (true, "aa6bb6aad852921d87484d68c2e6282d291e1f28e3baa43d9d5959ccca60f763"), looks := true }, kinds := [], alts := [], laidByText := true, laidKinds := [.data, .pinned], laidTests := true, laidLooks := .later }
def TableValuesCardSaid : Prop := Claim7.holds Tryz.pinned (.plain (OpenSpec.ofChange tableValuesSpec)) tableValuesCard

/-- THE TIED CARD OF 'datakitlaw26.TableLocates'. -/
def tableLocatesCard : Claim7 := { stood := { row := tableLocatesRow, standIns := [], harness := (true, "aa6bb6aad852921d87484d68c2e6282d291e1f28e3baa43d9d5959ccca60f763"), looks := true }, kinds := [], alts := [], laidByText := true, laidKinds := [.data, .pinned], laidTests := true, laidLooks := .later }
def TableLocatesCardSaid : Prop := Claim7.holds Tryz.pinned (.plain (OpenSpec.ofChange tableLocatesSpec)) tableLocatesCard

/-- THE TIED CARD OF 'datakitlaw26.TableWrites'. -/
def tableWritesCard : Claim7 := { stood := { row := tableWritesRow, standIns := [], harness := (true, "aa6bb6aad852921d87484d68c2e6282d291e1f28e3baa43d9d5959ccca60f763"), looks := true }, kinds := [], alts := [], laidByText := true, laidKinds := [.data, .pinned], laidTests := true, laidLooks := .later }
def TableWritesCardSaid : Prop := Claim7.holds Tryz.pinned (.plain (OpenSpec.ofChange tableWritesSpec)) tableWritesCard

/-- THE TIED CARD OF 'datakitlaw26.TableInner'. -/
def tableInnerCard : Claim7 := { stood := { row := tableInnerRow, standIns := [], harness := (true, "aa6bb6aad852921d87484d68c2e6282d291e1f28e3baa43d9d5959ccca60f763"), looks := true }, kinds := [], alts := [], laidByText := true, laidKinds := [.data, .pinned], laidTests := true, laidLooks := .later }
def TableInnerCardSaid : Prop := Claim7.holds Tryz.pinned (.plain (OpenSpec.ofChange tableInnerSpec)) tableInnerCard

/-- THE SECOND FORM's CARD OF 'datakitlaw26.TableReads'. -/
def tableReadsUptoCard : Claim7 := { stood := { row := tableReadsUptoRow, standIns := [], harness := (true, "aa6bb6aad852921d87484d68c2e6282d291e1f28e3baa43d9d5959ccca60f763"), looks := true }, kinds := [], alts := [], laidByText := true, laidKinds := [.data, .pinned], laidTests := true, laidLooks := .later }
def TableReadsUptoCardSaid : Prop := Claim7.holds Tryz.pinned (.plain (OpenSpec.upto tableReadsSpec)) tableReadsUptoCard

/-- THE SECOND FORM's CARD OF 'datakitlaw26.TableParses'. -/
def tableParsesUptoCard : Claim7 := { stood := { row := tableParsesUptoRow, standIns := [], harness := (true, "aa6bb6aad852921d87484d68c2e6282d291e1f28e3baa43d9d5959ccca60f763"), looks := true }, kinds := [], alts := [], laidByText := true, laidKinds := [.data, .pinned], laidTests := true, laidLooks := .later }
def TableParsesUptoCardSaid : Prop := Claim7.holds Tryz.pinned (.plain (OpenSpec.upto tableParsesSpec)) tableParsesUptoCard

/-- THE SECOND FORM's CARD OF 'datakitlaw26.TableLimits'. -/
def tableLimitsUptoCard : Claim7 := { stood := { row := tableLimitsUptoRow, standIns := [], harness := (true, "aa6bb6aad852921d87484d68c2e6282d291e1f28e3baa43d9d5959ccca60f763"), looks := true }, kinds := [], alts := [], laidByText := true, laidKinds := [.data, .pinned], laidTests := true, laidLooks := .later }
def TableLimitsUptoCardSaid : Prop := Claim7.holds Tryz.pinned (.plain (OpenSpec.upto tableLimitsSpec)) tableLimitsUptoCard

/-- THE SECOND FORM's CARD OF 'datakitlaw26.TableValues'. -/
def tableValuesUptoCard : Claim7 := { stood := { row := tableValuesUptoRow, standIns := [], harness := (true, "aa6bb6aad852921d87484d68c2e6282d291e1f28e3baa43d9d5959ccca60f763"), looks := true }, kinds := [], alts := [], laidByText := true, laidKinds := [.data, .pinned], laidTests := true, laidLooks := .later }
def TableValuesUptoCardSaid : Prop := Claim7.holds Tryz.pinned (.plain (OpenSpec.upto tableValuesSpec)) tableValuesUptoCard

/-- THE SECOND FORM's CARD OF 'datakitlaw26.TableLocates'. -/
def tableLocatesUptoCard : Claim7 := { stood := { row := tableLocatesUptoRow, standIns := [], harness := (true, "aa6bb6aad852921d87484d68c2e6282d291e1f28e3baa43d9d5959ccca60f763"), looks := true }, kinds := [], alts := [], laidByText := true, laidKinds := [.data, .pinned], laidTests := true, laidLooks := .later }
def TableLocatesUptoCardSaid : Prop := Claim7.holds Tryz.pinned (.plain (OpenSpec.upto tableLocatesSpec)) tableLocatesUptoCard

/-- THE SECOND FORM's CARD OF 'datakitlaw26.TableWrites'. -/
def tableWritesUptoCard : Claim7 := { stood := { row := tableWritesUptoRow, standIns := [], harness := (true, "aa6bb6aad852921d87484d68c2e6282d291e1f28e3baa43d9d5959ccca60f763"), looks := true }, kinds := [], alts := [], laidByText := true, laidKinds := [.data, .pinned], laidTests := true, laidLooks := .later }
def TableWritesUptoCardSaid : Prop := Claim7.holds Tryz.pinned (.plain (OpenSpec.upto tableWritesSpec)) tableWritesUptoCard

/-- THE SECOND FORM's CARD OF 'datakitlaw26.TableInner'. -/
def tableInnerUptoCard : Claim7 := { stood := { row := tableInnerUptoRow, standIns := [], harness := (true, "aa6bb6aad852921d87484d68c2e6282d291e1f28e3baa43d9d5959ccca60f763"), looks := true }, kinds := [], alts := [], laidByText := true, laidKinds := [.data, .pinned], laidTests := true, laidLooks := .later }
def TableInnerUptoCardSaid : Prop := Claim7.holds Tryz.pinned (.plain (OpenSpec.upto tableInnerSpec)) tableInnerUptoCard
end Rows
end Go.Proofs.YtahjbepjlconkaaGreatDoor
