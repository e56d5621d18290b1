/-
  No cell of these rows narrows 'for every input' (looked for: loops, veiled, ifaces, maps, wideKeys, modest, calm, conditions, laid).
  DERIVED. THE GIVEN ROWS OF THIS SEAT. 10 by the template 'for every input the law returns true; each argument reads behind the call as it read before'; 0 by the template 'total and deterministic' (their statements: YtphnhocpknhpgaaTotals.lean).
  GIVEN WITH THE SEED: the statements are not yours to turn. If you find one false, say at which input.
  Laid BY PROGRAM, IN A SANDBOX (cutbox-rows.mjs): the forced cells as the released guide's own fill.sh prints them over the translation d7693d37e584f13b… (all of the seat's roots in one cut). By AI agents, Wed Nov 11 2026. No macro, syntax, notation, axiom, sorry.
-/
import Derived.Test.YtphnhocpknhpgaaChecked
import GoSem.Claim
import GoSem.ClaimJoined
import GoSem.ClaimMapViews
import Derived.JoinedTies
import Derived.KernelRfl
namespace Go.Proofs.Ytphnhocpknhpgaa
/- THE CELL 'sum', in the pinned program and in every row, IS THE sha256 OF THE DUMP (.gsa) THAT YtphnhocpknhpgaaProg.lean LOADS. Nothing in Lean hashes anything: it is a label: what it is worth is what the hold of that sum in a sandbox is worth. -/
noncomputable def Try.pinned : Pinned := { name := "ytphnhocpknhpgaa", sum := "d7693d37e584f13bd584f43d1d2674b712a9c105982b7c3f2021ac42c51a030c", checked := Try.checked }
namespace Rows
def none {H : Type} : Left H := { results := [], args := [] }

/-- 'datakitlaw31.WindowKeeps': WHATEVER THE INPUT: true; the input reads as it did. -/
def windowKeepsSpec : ChangeSpec := { name := "windowKeeps", fn := fun _ => fun
  | [d1, d2] => { results := [.lit (.bool true)], args := [d1, d2] }
  | _ => none }
def windowKeepsRow : OpenClaim := { program := "ytphnhocpknhpgaa", sum := "d7693d37e584f13bd584f43d1d2674b712a9c105982b7c3f2021ac42c51a030c", func := "datakit/datakitlaw31.WindowKeeps", spec := "windowKeeps", apart := false }
def WindowKeepsSaid : Prop := windowKeepsRow.holds Try.pinned (OpenSpec.ofChange windowKeepsSpec)

/-- ITS FALSE NEIGHBOUR: 'it returns false'. Refute it at one input. -/
def windowKeepsWrong : ChangeSpec := { name := "windowKeeps", fn := fun _ => fun
  | [d1, d2] => { results := [.lit (.bool false)], args := [d1, d2] }
  | _ => none }
def WindowKeepsWrongFalsely : Prop := windowKeepsRow.holds Try.pinned (OpenSpec.ofChange windowKeepsWrong)

/-- 'datakitlaw31.WindowPlays': WHATEVER THE INPUT: true; the input reads as it did. -/
def windowPlaysSpec : ChangeSpec := { name := "windowPlays", fn := fun _ => fun
  | [d1, d2] => { results := [.lit (.bool true)], args := [d1, d2] }
  | _ => none }
def windowPlaysRow : OpenClaim := { program := "ytphnhocpknhpgaa", sum := "d7693d37e584f13bd584f43d1d2674b712a9c105982b7c3f2021ac42c51a030c", func := "datakit/datakitlaw31.WindowPlays", spec := "windowPlays", apart := false }
def WindowPlaysSaid : Prop := windowPlaysRow.holds Try.pinned (OpenSpec.ofChange windowPlaysSpec)

/-- ITS FALSE NEIGHBOUR: 'it returns false'. Refute it at one input. -/
def windowPlaysWrong : ChangeSpec := { name := "windowPlays", fn := fun _ => fun
  | [d1, d2] => { results := [.lit (.bool false)], args := [d1, d2] }
  | _ => none }
def WindowPlaysWrongFalsely : Prop := windowPlaysRow.holds Try.pinned (OpenSpec.ofChange windowPlaysWrong)

/-- 'datakitlaw31.WindowNils': WHATEVER THE INPUT: true; the input reads as it did. -/
def windowNilsSpec : ChangeSpec := { name := "windowNils", fn := fun _ => fun
  | [d1, d2, d3] => { results := [.lit (.bool true)], args := [d1, d2, d3] }
  | _ => none }
def windowNilsRow : OpenClaim := { program := "ytphnhocpknhpgaa", sum := "d7693d37e584f13bd584f43d1d2674b712a9c105982b7c3f2021ac42c51a030c", func := "datakit/datakitlaw31.WindowNils", spec := "windowNils", apart := false }
def WindowNilsSaid : Prop := windowNilsRow.holds Try.pinned (OpenSpec.ofChange windowNilsSpec)

/-- ITS FALSE NEIGHBOUR: 'it returns false'. Refute it at one input. -/
def windowNilsWrong : ChangeSpec := { name := "windowNils", fn := fun _ => fun
  | [d1, d2, d3] => { results := [.lit (.bool false)], args := [d1, d2, d3] }
  | _ => none }
def WindowNilsWrongFalsely : Prop := windowNilsRow.holds Try.pinned (OpenSpec.ofChange windowNilsWrong)

/-- 'datakitlaw06.BaseDecodes': WHATEVER THE INPUT: true; the input reads as it did. -/
def baseDecodesSpec : ChangeSpec := { name := "baseDecodes", fn := fun _ => fun
  | [d] => { results := [.lit (.bool true)], args := [d] }
  | _ => none }
def baseDecodesRow : OpenClaim := { program := "ytphnhocpknhpgaa", sum := "d7693d37e584f13bd584f43d1d2674b712a9c105982b7c3f2021ac42c51a030c", func := "datakit/datakitlaw06.BaseDecodes", spec := "baseDecodes", unfollowed := true, recurses := true, apart := false }
def BaseDecodesSaid : Prop := baseDecodesRow.holds Try.pinned (OpenSpec.ofChange baseDecodesSpec)

/-- ITS FALSE NEIGHBOUR: 'it returns false'. Refute it at one input. -/
def baseDecodesWrong : ChangeSpec := { name := "baseDecodes", fn := fun _ => fun
  | [d] => { results := [.lit (.bool false)], args := [d] }
  | _ => none }
def BaseDecodesWrongFalsely : Prop := baseDecodesRow.holds Try.pinned (OpenSpec.ofChange baseDecodesWrong)

/-- 'datakitlaw06.BaseEncodes': WHATEVER THE INPUT: true; the input reads as it did. -/
def baseEncodesSpec : ChangeSpec := { name := "baseEncodes", fn := fun _ => fun
  | [d1, d2] => { results := [.lit (.bool true)], args := [d1, d2] }
  | _ => none }
def baseEncodesRow : OpenClaim := { program := "ytphnhocpknhpgaa", sum := "d7693d37e584f13bd584f43d1d2674b712a9c105982b7c3f2021ac42c51a030c", func := "datakit/datakitlaw06.BaseEncodes", spec := "baseEncodes", unfollowed := true, recurses := true, apart := false }
def BaseEncodesSaid : Prop := baseEncodesRow.holds Try.pinned (OpenSpec.ofChange baseEncodesSpec)

/-- ITS FALSE NEIGHBOUR: 'it returns false'. Refute it at one input. -/
def baseEncodesWrong : ChangeSpec := { name := "baseEncodes", fn := fun _ => fun
  | [d1, d2] => { results := [.lit (.bool false)], args := [d1, d2] }
  | _ => none }
def BaseEncodesWrongFalsely : Prop := baseEncodesRow.holds Try.pinned (OpenSpec.ofChange baseEncodesWrong)

/-- 'datakitlaw06.BaseFolds': WHATEVER THE INPUT: true; the input reads as it did. -/
def baseFoldsSpec : ChangeSpec := { name := "baseFolds", fn := fun _ => fun
  | [d1, d2] => { results := [.lit (.bool true)], args := [d1, d2] }
  | _ => none }
def baseFoldsRow : OpenClaim := { program := "ytphnhocpknhpgaa", sum := "d7693d37e584f13bd584f43d1d2674b712a9c105982b7c3f2021ac42c51a030c", func := "datakit/datakitlaw06.BaseFolds", spec := "baseFolds", unfollowed := true, recurses := true, apart := false }
def BaseFoldsSaid : Prop := baseFoldsRow.holds Try.pinned (OpenSpec.ofChange baseFoldsSpec)

/-- ITS FALSE NEIGHBOUR: 'it returns false'. Refute it at one input. -/
def baseFoldsWrong : ChangeSpec := { name := "baseFolds", fn := fun _ => fun
  | [d1, d2] => { results := [.lit (.bool false)], args := [d1, d2] }
  | _ => none }
def BaseFoldsWrongFalsely : Prop := baseFoldsRow.holds Try.pinned (OpenSpec.ofChange baseFoldsWrong)

/-- 'datakitlaw06.BaseHexes': WHATEVER THE INPUT: true; the input reads as it did. -/
def baseHexesSpec : ChangeSpec := { name := "baseHexes", fn := fun _ => fun
  | [d1, d2] => { results := [.lit (.bool true)], args := [d1, d2] }
  | _ => none }
def baseHexesRow : OpenClaim := { program := "ytphnhocpknhpgaa", sum := "d7693d37e584f13bd584f43d1d2674b712a9c105982b7c3f2021ac42c51a030c", func := "datakit/datakitlaw06.BaseHexes", spec := "baseHexes", unfollowed := true, recurses := true, apart := false }
def BaseHexesSaid : Prop := baseHexesRow.holds Try.pinned (OpenSpec.ofChange baseHexesSpec)

/-- ITS FALSE NEIGHBOUR: 'it returns false'. Refute it at one input. -/
def baseHexesWrong : ChangeSpec := { name := "baseHexes", fn := fun _ => fun
  | [d1, d2] => { results := [.lit (.bool false)], args := [d1, d2] }
  | _ => none }
def BaseHexesWrongFalsely : Prop := baseHexesRow.holds Try.pinned (OpenSpec.ofChange baseHexesWrong)

/-- 'datakitlaw06.BaseOnly': WHATEVER THE INPUT: true; the input reads as it did. -/
def baseOnlySpec : ChangeSpec := { name := "baseOnly", fn := fun _ => fun
  | [d1, d2] => { results := [.lit (.bool true)], args := [d1, d2] }
  | _ => none }
def baseOnlyRow : OpenClaim := { program := "ytphnhocpknhpgaa", sum := "d7693d37e584f13bd584f43d1d2674b712a9c105982b7c3f2021ac42c51a030c", func := "datakit/datakitlaw06.BaseOnly", spec := "baseOnly", unfollowed := true, recurses := true, apart := false }
def BaseOnlySaid : Prop := baseOnlyRow.holds Try.pinned (OpenSpec.ofChange baseOnlySpec)

/-- ITS FALSE NEIGHBOUR: 'it returns false'. Refute it at one input. -/
def baseOnlyWrong : ChangeSpec := { name := "baseOnly", fn := fun _ => fun
  | [d1, d2] => { results := [.lit (.bool false)], args := [d1, d2] }
  | _ => none }
def BaseOnlyWrongFalsely : Prop := baseOnlyRow.holds Try.pinned (OpenSpec.ofChange baseOnlyWrong)

/-- 'datakitlaw06.BaseCut': WHATEVER THE INPUT: true; the input reads as it did. -/
def baseCutSpec : ChangeSpec := { name := "baseCut", fn := fun _ => fun
  | [d1, d2, d3] => { results := [.lit (.bool true)], args := [d1, d2, d3] }
  | _ => none }
def baseCutRow : OpenClaim := { program := "ytphnhocpknhpgaa", sum := "d7693d37e584f13bd584f43d1d2674b712a9c105982b7c3f2021ac42c51a030c", func := "datakit/datakitlaw06.BaseCut", spec := "baseCut", unfollowed := true, recurses := true, apart := false }
def BaseCutSaid : Prop := baseCutRow.holds Try.pinned (OpenSpec.ofChange baseCutSpec)

/-- ITS FALSE NEIGHBOUR: 'it returns false'. Refute it at one input. -/
def baseCutWrong : ChangeSpec := { name := "baseCut", fn := fun _ => fun
  | [d1, d2, d3] => { results := [.lit (.bool false)], args := [d1, d2, d3] }
  | _ => none }
def BaseCutWrongFalsely : Prop := baseCutRow.holds Try.pinned (OpenSpec.ofChange baseCutWrong)

/-- 'datakitlaw06.BaseBack': WHATEVER THE INPUT: true; the input reads as it did. -/
def baseBackSpec : ChangeSpec := { name := "baseBack", fn := fun _ => fun
  | [d1, d2] => { results := [.lit (.bool true)], args := [d1, d2] }
  | _ => none }
def baseBackRow : OpenClaim := { program := "ytphnhocpknhpgaa", sum := "d7693d37e584f13bd584f43d1d2674b712a9c105982b7c3f2021ac42c51a030c", func := "datakit/datakitlaw06.BaseBack", spec := "baseBack", unfollowed := true, recurses := true, apart := false }
def BaseBackSaid : Prop := baseBackRow.holds Try.pinned (OpenSpec.ofChange baseBackSpec)

/-- ITS FALSE NEIGHBOUR: 'it returns false'. Refute it at one input. -/
def baseBackWrong : ChangeSpec := { name := "baseBack", fn := fun _ => fun
  | [d1, d2] => { results := [.lit (.bool false)], args := [d1, d2] }
  | _ => none }
def BaseBackWrongFalsely : Prop := baseBackRow.holds Try.pinned (OpenSpec.ofChange baseBackWrong)

/- THE SECOND FORM. 'bulk': how many values and letters a reading holds, each counted each time it is reached (what is shared counts as often as it is met; a slice's spare places count too). A statement '..UptoSaid' is the law's where the arguments, and the package variables that the reading takes, are together of bulk at most 1048576: NARROWER than '..Said'. Prove '..Said' where nothing that the law and all that it calls make is longer than what came in: it says more and counts as full. Else prove '..UptoSaid'. A law counts once. -/
mutual
def uptoBulk {H : Type} : DataW H → Nat
  | .lit (.string bytes) => bytes.length + 1
  | .lit _ => 1
  | .nil => 1
  | .ptr d => uptoBulk d + 1
  | .slice elems spare => uptoBulkAll elems + uptoBulkAll spare + 1
  | .agg parts => uptoBulkAll parts + 1
  | .iface _ d => uptoBulk d + 1
  | .map entries => uptoBulkEntries entries + 1
  | .held _ => 1
def uptoBulkAll {H : Type} : List (DataW H) → Nat
  | [] => 0
  | d :: r => uptoBulk d + uptoBulkAll r
def uptoBulkEntries {H : Type} : List (Lit × DataW H) → Nat
  | [] => 0
  | x :: r => uptoBulkEntry x + uptoBulkEntries r
def uptoBulkEntry {H : Type} : Lit × DataW H → Nat
  | (.string bytes, d) => bytes.length + uptoBulk d + 1
  | (_, d) => uptoBulk d + 1
 end
def uptoSmall : (H : Type) → List (DataW H) → Bool := fun _ ds => decide (uptoBulkAll ds ≤ 1048576)
def OpenSpec.upto (s : _root_.Go.ChangeSpec) : _root_.Go.OpenSpec := { _root_.Go.OpenSpec.ofChange s with cond := some uptoSmall }

/-- 'datakitlaw31.WindowKeeps', WHERE WHAT IT READS IS OF BULK AT MOST 1048576: true; the input reads as it did. -/
def windowKeepsUptoRow : OpenClaim := { program := "ytphnhocpknhpgaa", sum := "d7693d37e584f13bd584f43d1d2674b712a9c105982b7c3f2021ac42c51a030c", func := "datakit/datakitlaw31.WindowKeeps", spec := "windowKeeps", apart := false, narrowed := true }
def WindowKeepsUptoSaid : Prop := windowKeepsUptoRow.holds Try.pinned (OpenSpec.upto windowKeepsSpec)

/-- 'datakitlaw31.WindowPlays', WHERE WHAT IT READS IS OF BULK AT MOST 1048576: true; the input reads as it did. -/
def windowPlaysUptoRow : OpenClaim := { program := "ytphnhocpknhpgaa", sum := "d7693d37e584f13bd584f43d1d2674b712a9c105982b7c3f2021ac42c51a030c", func := "datakit/datakitlaw31.WindowPlays", spec := "windowPlays", apart := false, narrowed := true }
def WindowPlaysUptoSaid : Prop := windowPlaysUptoRow.holds Try.pinned (OpenSpec.upto windowPlaysSpec)

/-- 'datakitlaw31.WindowNils', WHERE WHAT IT READS IS OF BULK AT MOST 1048576: true; the input reads as it did. -/
def windowNilsUptoRow : OpenClaim := { program := "ytphnhocpknhpgaa", sum := "d7693d37e584f13bd584f43d1d2674b712a9c105982b7c3f2021ac42c51a030c", func := "datakit/datakitlaw31.WindowNils", spec := "windowNils", apart := false, narrowed := true }
def WindowNilsUptoSaid : Prop := windowNilsUptoRow.holds Try.pinned (OpenSpec.upto windowNilsSpec)

/-- 'datakitlaw06.BaseDecodes', WHERE WHAT IT READS IS OF BULK AT MOST 1048576: true; the input reads as it did. -/
def baseDecodesUptoRow : OpenClaim := { program := "ytphnhocpknhpgaa", sum := "d7693d37e584f13bd584f43d1d2674b712a9c105982b7c3f2021ac42c51a030c", func := "datakit/datakitlaw06.BaseDecodes", spec := "baseDecodes", unfollowed := true, recurses := true, apart := false, narrowed := true }
def BaseDecodesUptoSaid : Prop := baseDecodesUptoRow.holds Try.pinned (OpenSpec.upto baseDecodesSpec)

/-- 'datakitlaw06.BaseEncodes', WHERE WHAT IT READS IS OF BULK AT MOST 1048576: true; the input reads as it did. -/
def baseEncodesUptoRow : OpenClaim := { program := "ytphnhocpknhpgaa", sum := "d7693d37e584f13bd584f43d1d2674b712a9c105982b7c3f2021ac42c51a030c", func := "datakit/datakitlaw06.BaseEncodes", spec := "baseEncodes", unfollowed := true, recurses := true, apart := false, narrowed := true }
def BaseEncodesUptoSaid : Prop := baseEncodesUptoRow.holds Try.pinned (OpenSpec.upto baseEncodesSpec)

/-- 'datakitlaw06.BaseFolds', WHERE WHAT IT READS IS OF BULK AT MOST 1048576: true; the input reads as it did. -/
def baseFoldsUptoRow : OpenClaim := { program := "ytphnhocpknhpgaa", sum := "d7693d37e584f13bd584f43d1d2674b712a9c105982b7c3f2021ac42c51a030c", func := "datakit/datakitlaw06.BaseFolds", spec := "baseFolds", unfollowed := true, recurses := true, apart := false, narrowed := true }
def BaseFoldsUptoSaid : Prop := baseFoldsUptoRow.holds Try.pinned (OpenSpec.upto baseFoldsSpec)

/-- 'datakitlaw06.BaseHexes', WHERE WHAT IT READS IS OF BULK AT MOST 1048576: true; the input reads as it did. -/
def baseHexesUptoRow : OpenClaim := { program := "ytphnhocpknhpgaa", sum := "d7693d37e584f13bd584f43d1d2674b712a9c105982b7c3f2021ac42c51a030c", func := "datakit/datakitlaw06.BaseHexes", spec := "baseHexes", unfollowed := true, recurses := true, apart := false, narrowed := true }
def BaseHexesUptoSaid : Prop := baseHexesUptoRow.holds Try.pinned (OpenSpec.upto baseHexesSpec)

/-- 'datakitlaw06.BaseOnly', WHERE WHAT IT READS IS OF BULK AT MOST 1048576: true; the input reads as it did. -/
def baseOnlyUptoRow : OpenClaim := { program := "ytphnhocpknhpgaa", sum := "d7693d37e584f13bd584f43d1d2674b712a9c105982b7c3f2021ac42c51a030c", func := "datakit/datakitlaw06.BaseOnly", spec := "baseOnly", unfollowed := true, recurses := true, apart := false, narrowed := true }
def BaseOnlyUptoSaid : Prop := baseOnlyUptoRow.holds Try.pinned (OpenSpec.upto baseOnlySpec)

/-- 'datakitlaw06.BaseCut', WHERE WHAT IT READS IS OF BULK AT MOST 1048576: true; the input reads as it did. -/
def baseCutUptoRow : OpenClaim := { program := "ytphnhocpknhpgaa", sum := "d7693d37e584f13bd584f43d1d2674b712a9c105982b7c3f2021ac42c51a030c", func := "datakit/datakitlaw06.BaseCut", spec := "baseCut", unfollowed := true, recurses := true, apart := false, narrowed := true }
def BaseCutUptoSaid : Prop := baseCutUptoRow.holds Try.pinned (OpenSpec.upto baseCutSpec)

/-- 'datakitlaw06.BaseBack', WHERE WHAT IT READS IS OF BULK AT MOST 1048576: true; the input reads as it did. -/
def baseBackUptoRow : OpenClaim := { program := "ytphnhocpknhpgaa", sum := "d7693d37e584f13bd584f43d1d2674b712a9c105982b7c3f2021ac42c51a030c", func := "datakit/datakitlaw06.BaseBack", spec := "baseBack", unfollowed := true, recurses := true, apart := false, narrowed := true }
def BaseBackUptoSaid : Prop := baseBackUptoRow.holds Try.pinned (OpenSpec.upto baseBackSpec)

end Rows
end Go.Proofs.Ytphnhocpknhpgaa
