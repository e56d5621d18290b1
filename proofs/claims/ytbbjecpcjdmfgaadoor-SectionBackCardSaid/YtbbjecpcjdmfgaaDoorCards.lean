/-
  DERIVED. GIVEN WITH THE SEED: THE CARDS: each row of YtbbjecpcjdmfgaaDoorRows.lean that lists a variable, with what it lists TIED to the program's text (the seventh form; the later family's looks); each row that meets fmt, with fmt's text TOLD by the authors' own Lean function (tested against real Go, not proved from fmt's source: count such statements apart). THE CARD IS WHAT COUNTS. Prove the row's statement (the work); the ties are given (YtbbjecpcjdmfgaaDoorTie.lean); close each card by the builder's one call (the guide's Derived/Test/ToyasCard.lean, 'card_holds'). Laid BY PROGRAM, IN A SANDBOX (cutbox-door.mjs). By AI agents, Wed Nov 11 2026. No macro, syntax, notation, axiom, sorry.
-/
import Derived.Test.YtbbjecpcjdmfgaaDoorRows
import GoSem.ClaimSeven
namespace Go.Proofs.YtbbjecpcjdmfgaaDoor
namespace Rows

/-- THE TIED CARD OF 'datakitlaw25.SectionBegins'. -/
def sectionBeginsCard : Claim7 := { stood := { row := sectionBeginsRow, standIns := [], harness := (true, "d15930ccad92f690d5d045b2a21961806a15bad10497ead5e241b69a101f8d76"), looks := false }, kinds := [], alts := [], laidByText := true, laidKinds := [.data, .pinned], laidTests := true, laidLooks := .later }
def SectionBeginsCardSaid : Prop := Claim7.holds Tryd.pinned (.plain (OpenSpec.ofChange sectionBeginsSpec)) sectionBeginsCard

/-- THE TIED CARD OF 'datakitlaw25.SectionBack'. -/
def sectionBackCard : Claim7 := { stood := { row := sectionBackRow, standIns := [], harness := (true, "d15930ccad92f690d5d045b2a21961806a15bad10497ead5e241b69a101f8d76"), looks := false }, kinds := [], alts := [], laidByText := true, laidKinds := [.data, .pinned], laidTests := true, laidLooks := .later }
def SectionBackCardSaid : Prop := Claim7.holds Tryd.pinned (.plain (OpenSpec.ofChange sectionBackSpec)) sectionBackCard

/-- THE SECOND FORM's CARD OF 'datakitlaw25.SectionBegins'. -/
def sectionBeginsUptoCard : Claim7 := { stood := { row := sectionBeginsUptoRow, standIns := [], harness := (true, "d15930ccad92f690d5d045b2a21961806a15bad10497ead5e241b69a101f8d76"), looks := false }, kinds := [], alts := [], laidByText := true, laidKinds := [.data, .pinned], laidTests := true, laidLooks := .later }
def SectionBeginsUptoCardSaid : Prop := Claim7.holds Tryd.pinned (.plain (OpenSpec.upto sectionBeginsSpec)) sectionBeginsUptoCard

/-- THE SECOND FORM's CARD OF 'datakitlaw25.SectionBack'. -/
def sectionBackUptoCard : Claim7 := { stood := { row := sectionBackUptoRow, standIns := [], harness := (true, "d15930ccad92f690d5d045b2a21961806a15bad10497ead5e241b69a101f8d76"), looks := false }, kinds := [], alts := [], laidByText := true, laidKinds := [.data, .pinned], laidTests := true, laidLooks := .later }
def SectionBackUptoCardSaid : Prop := Claim7.holds Tryd.pinned (.plain (OpenSpec.upto sectionBackSpec)) sectionBackUptoCard
end Rows
end Go.Proofs.YtbbjecpcjdmfgaaDoor
