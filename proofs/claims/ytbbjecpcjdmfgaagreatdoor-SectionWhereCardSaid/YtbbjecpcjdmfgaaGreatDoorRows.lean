/-
  NARROWER THAN 'FOR EVERY INPUT', by the rows' own cells (each row's printed sentence says how): SectionBuilds: loops, laid · SectionFlattens: loops, laid · SectionWhere: loops, laid · SectionValues: loops, laid.
  DERIVED. THE GIVEN ROWS OF THIS SEAT. 4 by the template 'for every input the law returns true; each argument reads behind the call as it read before'; 0 by the template 'total and deterministic' (their statements: YtbbjecpcjdmfgaaGreatDoorTotals.lean).
  GIVEN WITH THE SEED: the statements are not yours to turn. If you find one false, say at which input.
  Laid BY PROGRAM, IN A SANDBOX (cutbox-rows.mjs): the forced cells as the released guide's own fill.sh prints them over the translation 847dc03b4e0e229e… (all of the seat's roots in one cut). By AI agents, Wed Nov 11 2026. No macro, syntax, notation, axiom, sorry.
-/
import Derived.Test.YtbbjecpcjdmfgaaGreatDoorChecked
import GoSem.PinnedTables
import GoSem.Claim
import GoSem.ClaimJoined
import GoSem.ClaimMapViews
import Derived.JoinedTies
import Derived.KernelRfl
namespace Go.Proofs.YtbbjecpcjdmfgaaGreatDoor
/- THE CELL 'sum', in the pinned program and in every row, IS THE sha256 OF THE DUMP (.gsa) THAT YtbbjecpcjdmfgaaGreatDoorProg.lean LOADS. Nothing in Lean hashes anything: it is a label: what it is worth is what the hold of that sum in a sandbox is worth. -/
noncomputable def Tryz.pinned : Pinned := { name := "ytbbjecpcjdmfgaagreatdoor", sum := "847dc03b4e0e229ecdffdb7fd2d875715107748f702abc7dc6254a00b97d4c5a", checked := Tryz.checked }
namespace Rows
def none {H : Type} : Left H := { results := [], args := [] }

/- WHAT THE LISTED PACKAGE-LEVEL VARIABLES READ AS WHEN THE CALL BEGINS. Each datum BY PROGRAM (the guide's laid-datum.mjs) off the statement by which the dump's own 'gosem.cut.vars' lays the variable. In a bare row this is a premise. The card (YtbbjecpcjdmfgaaGreatDoorCards.lean) ties it to the program's text. -/
def laid_unicode_utf8_acceptRanges {H : Type} : DataW H := .agg [.agg [.lit (.int .u8 128), .lit (.int .u8 191)], .agg [.lit (.int .u8 160), .lit (.int .u8 191)], .agg [.lit (.int .u8 128), .lit (.int .u8 159)], .agg [.lit (.int .u8 144), .lit (.int .u8 191)], .agg [.lit (.int .u8 128), .lit (.int .u8 143)], .agg [.lit (.int .u8 0), .lit (.int .u8 0)], .agg [.lit (.int .u8 0), .lit (.int .u8 0)], .agg [.lit (.int .u8 0), .lit (.int .u8 0)], .agg [.lit (.int .u8 0), .lit (.int .u8 0)], .agg [.lit (.int .u8 0), .lit (.int .u8 0)], .agg [.lit (.int .u8 0), .lit (.int .u8 0)], .agg [.lit (.int .u8 0), .lit (.int .u8 0)], .agg [.lit (.int .u8 0), .lit (.int .u8 0)], .agg [.lit (.int .u8 0), .lit (.int .u8 0)], .agg [.lit (.int .u8 0), .lit (.int .u8 0)], .agg [.lit (.int .u8 0), .lit (.int .u8 0)]]
/-- One of Go's own tables, pinned by name: the form's constant. -/
def laid_unicode_utf8_first : DataW Unit := Go.Pinned.utf8First

/-- 'datakitlaw25.SectionBuilds': WHATEVER THE INPUT: true; the input reads as it did. -/
def sectionBuildsSpec : ChangeSpec := { name := "sectionBuilds", fn := fun _ => fun
  | [d] => { results := [.lit (.bool true)], args := [d] }
  | _ => none }
def sectionBuildsRow : OpenClaim := { program := "ytbbjecpcjdmfgaagreatdoor", sum := "847dc03b4e0e229ecdffdb7fd2d875715107748f702abc7dc6254a00b97d4c5a", func := "datakit/datakitlaw25.SectionBuilds", spec := "sectionBuilds", inPlace := ["internal/bytealg.IndexByteString", "internal/bytealg.IndexString"], unfollowed := true, recurses := true, named := ["unicode/utf8.first", "unicode/utf8.acceptRanges", "internal/bytealg.MaxLen"], loops := true, apart := false, laid := [("unicode/utf8.acceptRanges", laid_unicode_utf8_acceptRanges), ("unicode/utf8.first", laid_unicode_utf8_first)] }
def SectionBuildsSaid : Prop := sectionBuildsRow.holds Tryz.pinned (OpenSpec.ofChange sectionBuildsSpec)

/-- ITS FALSE NEIGHBOUR: 'it returns false'. Refute it at one input. -/
def sectionBuildsWrong : ChangeSpec := { name := "sectionBuilds", fn := fun _ => fun
  | [d] => { results := [.lit (.bool false)], args := [d] }
  | _ => none }
def SectionBuildsWrongFalsely : Prop := sectionBuildsRow.holds Tryz.pinned (OpenSpec.ofChange sectionBuildsWrong)

/-- 'datakitlaw25.SectionFlattens': WHATEVER THE INPUT: true; the input reads as it did. -/
def sectionFlattensSpec : ChangeSpec := { name := "sectionFlattens", fn := fun _ => fun
  | [d] => { results := [.lit (.bool true)], args := [d] }
  | _ => none }
def sectionFlattensRow : OpenClaim := { program := "ytbbjecpcjdmfgaagreatdoor", sum := "847dc03b4e0e229ecdffdb7fd2d875715107748f702abc7dc6254a00b97d4c5a", func := "datakit/datakitlaw25.SectionFlattens", spec := "sectionFlattens", inPlace := ["internal/bytealg.IndexByteString", "internal/bytealg.IndexString"], unfollowed := true, recurses := true, named := ["unicode/utf8.first", "unicode/utf8.acceptRanges", "internal/bytealg.MaxLen"], loops := true, apart := false, laid := [("unicode/utf8.acceptRanges", laid_unicode_utf8_acceptRanges), ("unicode/utf8.first", laid_unicode_utf8_first)] }
def SectionFlattensSaid : Prop := sectionFlattensRow.holds Tryz.pinned (OpenSpec.ofChange sectionFlattensSpec)

/-- ITS FALSE NEIGHBOUR: 'it returns false'. Refute it at one input. -/
def sectionFlattensWrong : ChangeSpec := { name := "sectionFlattens", fn := fun _ => fun
  | [d] => { results := [.lit (.bool false)], args := [d] }
  | _ => none }
def SectionFlattensWrongFalsely : Prop := sectionFlattensRow.holds Tryz.pinned (OpenSpec.ofChange sectionFlattensWrong)

/-- 'datakitlaw25.SectionWhere': WHATEVER THE INPUT: true; the input reads as it did. -/
def sectionWhereSpec : ChangeSpec := { name := "sectionWhere", fn := fun _ => fun
  | [d1, d2] => { results := [.lit (.bool true)], args := [d1, d2] }
  | _ => none }
def sectionWhereRow : OpenClaim := { program := "ytbbjecpcjdmfgaagreatdoor", sum := "847dc03b4e0e229ecdffdb7fd2d875715107748f702abc7dc6254a00b97d4c5a", func := "datakit/datakitlaw25.SectionWhere", spec := "sectionWhere", inPlace := ["internal/bytealg.IndexByteString", "internal/bytealg.IndexString"], unfollowed := true, recurses := true, named := ["unicode/utf8.first", "unicode/utf8.acceptRanges", "internal/bytealg.MaxLen"], loops := true, apart := false, laid := [("unicode/utf8.acceptRanges", laid_unicode_utf8_acceptRanges), ("unicode/utf8.first", laid_unicode_utf8_first)] }
def SectionWhereSaid : Prop := sectionWhereRow.holds Tryz.pinned (OpenSpec.ofChange sectionWhereSpec)

/-- ITS FALSE NEIGHBOUR: 'it returns false'. Refute it at one input. -/
def sectionWhereWrong : ChangeSpec := { name := "sectionWhere", fn := fun _ => fun
  | [d1, d2] => { results := [.lit (.bool false)], args := [d1, d2] }
  | _ => none }
def SectionWhereWrongFalsely : Prop := sectionWhereRow.holds Tryz.pinned (OpenSpec.ofChange sectionWhereWrong)

/-- 'datakitlaw25.SectionValues': WHATEVER THE INPUT: true; the input reads as it did. -/
def sectionValuesSpec : ChangeSpec := { name := "sectionValues", fn := fun _ => fun
  | [d1, d2] => { results := [.lit (.bool true)], args := [d1, d2] }
  | _ => none }
def sectionValuesRow : OpenClaim := { program := "ytbbjecpcjdmfgaagreatdoor", sum := "847dc03b4e0e229ecdffdb7fd2d875715107748f702abc7dc6254a00b97d4c5a", func := "datakit/datakitlaw25.SectionValues", spec := "sectionValues", inPlace := ["internal/bytealg.IndexByteString", "internal/bytealg.IndexString", "internal/bytealg.abigen_runtime_cmpstring"], unfollowed := true, recurses := true, named := ["unicode/utf8.first", "unicode/utf8.acceptRanges", "internal/bytealg.MaxLen"], loops := true, apart := false, laid := [("unicode/utf8.acceptRanges", laid_unicode_utf8_acceptRanges), ("unicode/utf8.first", laid_unicode_utf8_first)] }
def SectionValuesSaid : Prop := sectionValuesRow.holds Tryz.pinned (OpenSpec.ofChange sectionValuesSpec)

/-- ITS FALSE NEIGHBOUR: 'it returns false'. Refute it at one input. -/
def sectionValuesWrong : ChangeSpec := { name := "sectionValues", fn := fun _ => fun
  | [d1, d2] => { results := [.lit (.bool false)], args := [d1, d2] }
  | _ => none }
def SectionValuesWrongFalsely : Prop := sectionValuesRow.holds Tryz.pinned (OpenSpec.ofChange sectionValuesWrong)

/- THE SECOND FORM. 'bulk': how many values and letters a reading holds, each counted each time it is reached (what is shared counts as often as it is met; a slice's spare places count too). A statement '..UptoSaid' is the law's where the arguments, and the package variables that the reading takes, are together of bulk at most 1048576: NARROWER than '..Said'. Prove '..Said' where nothing that the law and all that it calls make is longer than what came in: it says more and counts as full. Else prove '..UptoSaid'. A law counts once. -/
mutual
def uptoBulk {H : Type} : DataW H → Nat
  | .lit (.string bytes) => bytes.length + 1
  | .lit _ => 1
  | .nil => 1
  | .ptr d => uptoBulk d + 1
  | .slice elems spare => uptoBulkAll elems + uptoBulkAll spare + 1
  | .agg parts => uptoBulkAll parts + 1
  | .iface _ d => uptoBulk d + 1
  | .map entries => uptoBulkEntries entries + 1
  | .held _ => 1
def uptoBulkAll {H : Type} : List (DataW H) → Nat
  | [] => 0
  | d :: r => uptoBulk d + uptoBulkAll r
def uptoBulkEntries {H : Type} : List (Lit × DataW H) → Nat
  | [] => 0
  | x :: r => uptoBulkEntry x + uptoBulkEntries r
def uptoBulkEntry {H : Type} : Lit × DataW H → Nat
  | (.string bytes, d) => bytes.length + uptoBulk d + 1
  | (_, d) => uptoBulk d + 1
 end
def uptoSmall : (H : Type) → List (DataW H) → Bool := fun _ ds => decide (uptoBulkAll ds ≤ 1048576)
def OpenSpec.upto (s : _root_.Go.ChangeSpec) : _root_.Go.OpenSpec := { _root_.Go.OpenSpec.ofChange s with cond := some uptoSmall }

/-- 'datakitlaw25.SectionBuilds', WHERE WHAT IT READS IS OF BULK AT MOST 1048576: true; the input reads as it did. -/
def sectionBuildsUptoRow : OpenClaim := { program := "ytbbjecpcjdmfgaagreatdoor", sum := "847dc03b4e0e229ecdffdb7fd2d875715107748f702abc7dc6254a00b97d4c5a", func := "datakit/datakitlaw25.SectionBuilds", spec := "sectionBuilds", inPlace := ["internal/bytealg.IndexByteString", "internal/bytealg.IndexString"], unfollowed := true, recurses := true, named := ["unicode/utf8.first", "unicode/utf8.acceptRanges", "internal/bytealg.MaxLen"], loops := true, apart := false, laid := [("unicode/utf8.acceptRanges", laid_unicode_utf8_acceptRanges), ("unicode/utf8.first", laid_unicode_utf8_first)], narrowed := true }
def SectionBuildsUptoSaid : Prop := sectionBuildsUptoRow.holds Tryz.pinned (OpenSpec.upto sectionBuildsSpec)

/-- 'datakitlaw25.SectionFlattens', WHERE WHAT IT READS IS OF BULK AT MOST 1048576: true; the input reads as it did. -/
def sectionFlattensUptoRow : OpenClaim := { program := "ytbbjecpcjdmfgaagreatdoor", sum := "847dc03b4e0e229ecdffdb7fd2d875715107748f702abc7dc6254a00b97d4c5a", func := "datakit/datakitlaw25.SectionFlattens", spec := "sectionFlattens", inPlace := ["internal/bytealg.IndexByteString", "internal/bytealg.IndexString"], unfollowed := true, recurses := true, named := ["unicode/utf8.first", "unicode/utf8.acceptRanges", "internal/bytealg.MaxLen"], loops := true, apart := false, laid := [("unicode/utf8.acceptRanges", laid_unicode_utf8_acceptRanges), ("unicode/utf8.first", laid_unicode_utf8_first)], narrowed := true }
def SectionFlattensUptoSaid : Prop := sectionFlattensUptoRow.holds Tryz.pinned (OpenSpec.upto sectionFlattensSpec)

/-- 'datakitlaw25.SectionWhere', WHERE WHAT IT READS IS OF BULK AT MOST 1048576: true; the input reads as it did. -/
def sectionWhereUptoRow : OpenClaim := { program := "ytbbjecpcjdmfgaagreatdoor", sum := "847dc03b4e0e229ecdffdb7fd2d875715107748f702abc7dc6254a00b97d4c5a", func := "datakit/datakitlaw25.SectionWhere", spec := "sectionWhere", inPlace := ["internal/bytealg.IndexByteString", "internal/bytealg.IndexString"], unfollowed := true, recurses := true, named := ["unicode/utf8.first", "unicode/utf8.acceptRanges", "internal/bytealg.MaxLen"], loops := true, apart := false, laid := [("unicode/utf8.acceptRanges", laid_unicode_utf8_acceptRanges), ("unicode/utf8.first", laid_unicode_utf8_first)], narrowed := true }
def SectionWhereUptoSaid : Prop := sectionWhereUptoRow.holds Tryz.pinned (OpenSpec.upto sectionWhereSpec)

/-- 'datakitlaw25.SectionValues', WHERE WHAT IT READS IS OF BULK AT MOST 1048576: true; the input reads as it did. -/
def sectionValuesUptoRow : OpenClaim := { program := "ytbbjecpcjdmfgaagreatdoor", sum := "847dc03b4e0e229ecdffdb7fd2d875715107748f702abc7dc6254a00b97d4c5a", func := "datakit/datakitlaw25.SectionValues", spec := "sectionValues", inPlace := ["internal/bytealg.IndexByteString", "internal/bytealg.IndexString", "internal/bytealg.abigen_runtime_cmpstring"], unfollowed := true, recurses := true, named := ["unicode/utf8.first", "unicode/utf8.acceptRanges", "internal/bytealg.MaxLen"], loops := true, apart := false, laid := [("unicode/utf8.acceptRanges", laid_unicode_utf8_acceptRanges), ("unicode/utf8.first", laid_unicode_utf8_first)], narrowed := true }
def SectionValuesUptoSaid : Prop := sectionValuesUptoRow.holds Tryz.pinned (OpenSpec.upto sectionValuesSpec)

end Rows
end Go.Proofs.YtbbjecpcjdmfgaaGreatDoor
