/-
  DERIVED. GIVEN WITH THE SEED: THE CARDS: each row of YteghkkhlgjiaiaaDoorRows.lean that lists a variable, with what it lists TIED to the program's text (the seventh form; the later family's looks); each row that meets fmt, with fmt's text TOLD by the authors' own Lean function (tested against real Go, not proved from fmt's source: count such statements apart). THE CARD IS WHAT COUNTS. Prove the row's statement (the work); the ties are given (YteghkkhlgjiaiaaDoorTie.lean); close each card by the builder's one call (the guide's Derived/Test/ToyasCard.lean, 'card_holds'). Laid BY PROGRAM, IN A SANDBOX (cutbox-door.mjs). By AI agents, Wed Nov 11 2026. No macro, syntax, notation, axiom, sorry.
-/
import Derived.Test.YteghkkhlgjiaiaaDoorRows
import GoSem.ClaimSeven
namespace Go.Proofs.YteghkkhlgjiaiaaDoor
namespace Rows

/-- THE TIED CARD OF 'datakitlaw10.CanonEncodes'. -/
def canonEncodesCard : Claim7 := { stood := { row := canonEncodesRow, standIns := [], harness := (true, "b3e0757d3e0b492111567cee1aa922b33eca7dc4d5e67b413e52e3c0572bde65"), looks := false }, kinds := [], alts := [], laidByText := true, laidKinds := [.data, .pinned], laidTests := true, laidLooks := .later }
def CanonEncodesCardSaid : Prop := Claim7.holds Tryd.pinned (.plain (OpenSpec.ofChange canonEncodesSpec)) canonEncodesCard

/-- THE TIED CARD OF 'datakitlaw10.CanonCuts'. -/
def canonCutsCard : Claim7 := { stood := { row := canonCutsRow, standIns := [], harness := (true, "b3e0757d3e0b492111567cee1aa922b33eca7dc4d5e67b413e52e3c0572bde65"), looks := false }, kinds := [], alts := [], laidByText := true, laidKinds := [.data, .pinned], laidTests := true, laidLooks := .later }
def CanonCutsCardSaid : Prop := Claim7.holds Tryd.pinned (.plain (OpenSpec.ofChange canonCutsSpec)) canonCutsCard

/-- THE SECOND FORM's CARD OF 'datakitlaw10.CanonEncodes'. -/
def canonEncodesUptoCard : Claim7 := { stood := { row := canonEncodesUptoRow, standIns := [], harness := (true, "b3e0757d3e0b492111567cee1aa922b33eca7dc4d5e67b413e52e3c0572bde65"), looks := false }, kinds := [], alts := [], laidByText := true, laidKinds := [.data, .pinned], laidTests := true, laidLooks := .later }
def CanonEncodesUptoCardSaid : Prop := Claim7.holds Tryd.pinned (.plain (OpenSpec.upto canonEncodesSpec)) canonEncodesUptoCard

/-- THE SECOND FORM's CARD OF 'datakitlaw10.CanonCuts'. -/
def canonCutsUptoCard : Claim7 := { stood := { row := canonCutsUptoRow, standIns := [], harness := (true, "b3e0757d3e0b492111567cee1aa922b33eca7dc4d5e67b413e52e3c0572bde65"), looks := false }, kinds := [], alts := [], laidByText := true, laidKinds := [.data, .pinned], laidTests := true, laidLooks := .later }
def CanonCutsUptoCardSaid : Prop := Claim7.holds Tryd.pinned (.plain (OpenSpec.upto canonCutsSpec)) canonCutsUptoCard
end Rows
end Go.Proofs.YteghkkhlgjiaiaaDoor
