/-
  NARROWER THAN 'FOR EVERY INPUT', by the rows' own cells (each row's printed sentence says how): DelimstreamReads: laid · DelimstreamFeeds: laid · DelimstreamNils: laid · GridCells: loops, laid · GridReads: laid · GridValues: loops, laid · DelimstreamParts: laid · GridLocates: loops, laid · GridWrites: loops, laid · GridBack: loops, laid · GridLossless: loops, laid · GridAgain: laid.
  DERIVED. THE GIVEN ROWS OF THIS SEAT. 12 by the template 'for every input the law returns true; each argument reads behind the call as it read before'; 0 by the template 'total and deterministic' (their statements: YtpfhcnpnngjpnaaGreatDoorTotals.lean).
  GIVEN WITH THE SEED: the statements are not yours to turn. If you find one false, say at which input.
  Laid BY PROGRAM, IN A SANDBOX (cutbox-rows.mjs): the forced cells as the released guide's own fill.sh prints them over the translation 0e7336c16bd4ae42… (all of the seat's roots in one cut). By AI agents, Wed Nov 11 2026. No macro, syntax, notation, axiom, sorry.
-/
import Derived.Test.YtpfhcnpnngjpnaaGreatDoorChecked
import GoSem.PinnedTables
import GoSem.Claim
import GoSem.ClaimJoined
import GoSem.ClaimMapViews
import Derived.JoinedTies
import Derived.KernelRfl
namespace Go.Proofs.YtpfhcnpnngjpnaaGreatDoor
/- THE CELL 'sum', in the pinned program and in every row, IS THE sha256 OF THE DUMP (.gsa) THAT YtpfhcnpnngjpnaaGreatDoorProg.lean LOADS. Nothing in Lean hashes anything: it is a label: what it is worth is what the hold of that sum in a sandbox is worth. -/
noncomputable def Tryz.pinned : Pinned := { name := "ytpfhcnpnngjpnaagreatdoor", sum := "0e7336c16bd4ae423b22226d07a690db0140b3dafcda5c7331a5b0afec11c8bf", checked := Tryz.checked }
namespace Rows
def none {H : Type} : Left H := { results := [], args := [] }

/- WHAT THE LISTED PACKAGE-LEVEL VARIABLES READ AS WHEN THE CALL BEGINS. Each datum BY PROGRAM (the guide's laid-datum.mjs) off the statement by which the dump's own 'gosem.cut.vars' lays the variable. In a bare row this is a premise. The card (YtpfhcnpnngjpnaaGreatDoorCards.lean) ties it to the program's text. -/
def laid_unicode_utf8_acceptRanges {H : Type} : DataW H := .agg [.agg [.lit (.int .u8 128), .lit (.int .u8 191)], .agg [.lit (.int .u8 160), .lit (.int .u8 191)], .agg [.lit (.int .u8 128), .lit (.int .u8 159)], .agg [.lit (.int .u8 144), .lit (.int .u8 191)], .agg [.lit (.int .u8 128), .lit (.int .u8 143)], .agg [.lit (.int .u8 0), .lit (.int .u8 0)], .agg [.lit (.int .u8 0), .lit (.int .u8 0)], .agg [.lit (.int .u8 0), .lit (.int .u8 0)], .agg [.lit (.int .u8 0), .lit (.int .u8 0)], .agg [.lit (.int .u8 0), .lit (.int .u8 0)], .agg [.lit (.int .u8 0), .lit (.int .u8 0)], .agg [.lit (.int .u8 0), .lit (.int .u8 0)], .agg [.lit (.int .u8 0), .lit (.int .u8 0)], .agg [.lit (.int .u8 0), .lit (.int .u8 0)], .agg [.lit (.int .u8 0), .lit (.int .u8 0)], .agg [.lit (.int .u8 0), .lit (.int .u8 0)]]
/-- One of Go's own tables, pinned by name: the form's constant. -/
def laid_unicode_utf8_first : DataW Unit := Go.Pinned.utf8First

/-- 'datakitlaw33.DelimstreamReads': WHATEVER THE INPUT: true; the input reads as it did. -/
def delimstreamReadsSpec : ChangeSpec := { name := "delimstreamReads", fn := fun _ => fun
  | [d1, d2, d3] => { results := [.lit (.bool true)], args := [d1, d2, d3] }
  | _ => none }
def delimstreamReadsRow : OpenClaim := { program := "ytpfhcnpnngjpnaagreatdoor", sum := "0e7336c16bd4ae423b22226d07a690db0140b3dafcda5c7331a5b0afec11c8bf", func := "datakit/datakitlaw33.DelimstreamReads", spec := "delimstreamReads", inPlace := ["internal/bytealg.CountString", "internal/bytealg.IndexByteString", "internal/bytealg.IndexString", "internal/abi.NoEscape", "internal/bytealg.MakeNoZero"], recurses := true, named := ["internal/bytealg.MaxLen", "unicode/utf8.first", "unicode/utf8.acceptRanges"], apart := false, laid := [("unicode/utf8.acceptRanges", laid_unicode_utf8_acceptRanges), ("unicode/utf8.first", laid_unicode_utf8_first)] }
def DelimstreamReadsSaid : Prop := delimstreamReadsRow.holds Tryz.pinned (OpenSpec.ofChange delimstreamReadsSpec)

/-- ITS FALSE NEIGHBOUR: 'it returns false'. Refute it at one input. -/
def delimstreamReadsWrong : ChangeSpec := { name := "delimstreamReads", fn := fun _ => fun
  | [d1, d2, d3] => { results := [.lit (.bool false)], args := [d1, d2, d3] }
  | _ => none }
def DelimstreamReadsWrongFalsely : Prop := delimstreamReadsRow.holds Tryz.pinned (OpenSpec.ofChange delimstreamReadsWrong)

/-- 'datakitlaw33.DelimstreamFeeds': WHATEVER THE INPUT: true; the input reads as it did. -/
def delimstreamFeedsSpec : ChangeSpec := { name := "delimstreamFeeds", fn := fun _ => fun
  | [d1, d2, d3] => { results := [.lit (.bool true)], args := [d1, d2, d3] }
  | _ => none }
def delimstreamFeedsRow : OpenClaim := { program := "ytpfhcnpnngjpnaagreatdoor", sum := "0e7336c16bd4ae423b22226d07a690db0140b3dafcda5c7331a5b0afec11c8bf", func := "datakit/datakitlaw33.DelimstreamFeeds", spec := "delimstreamFeeds", inPlace := ["internal/bytealg.CountString", "internal/bytealg.IndexByteString", "internal/bytealg.IndexString", "internal/abi.NoEscape", "internal/bytealg.MakeNoZero"], recurses := true, named := ["internal/bytealg.MaxLen", "unicode/utf8.first", "unicode/utf8.acceptRanges"], apart := false, laid := [("unicode/utf8.acceptRanges", laid_unicode_utf8_acceptRanges), ("unicode/utf8.first", laid_unicode_utf8_first)] }
def DelimstreamFeedsSaid : Prop := delimstreamFeedsRow.holds Tryz.pinned (OpenSpec.ofChange delimstreamFeedsSpec)

/-- ITS FALSE NEIGHBOUR: 'it returns false'. Refute it at one input. -/
def delimstreamFeedsWrong : ChangeSpec := { name := "delimstreamFeeds", fn := fun _ => fun
  | [d1, d2, d3] => { results := [.lit (.bool false)], args := [d1, d2, d3] }
  | _ => none }
def DelimstreamFeedsWrongFalsely : Prop := delimstreamFeedsRow.holds Tryz.pinned (OpenSpec.ofChange delimstreamFeedsWrong)

/-- 'datakitlaw33.DelimstreamNils': WHATEVER THE INPUT: true; the input reads as it did. -/
def delimstreamNilsSpec : ChangeSpec := { name := "delimstreamNils", fn := fun _ => fun
  | [d] => { results := [.lit (.bool true)], args := [d] }
  | _ => none }
def delimstreamNilsRow : OpenClaim := { program := "ytpfhcnpnngjpnaagreatdoor", sum := "0e7336c16bd4ae423b22226d07a690db0140b3dafcda5c7331a5b0afec11c8bf", func := "datakit/datakitlaw33.DelimstreamNils", spec := "delimstreamNils", inPlace := ["internal/bytealg.CountString", "internal/bytealg.IndexByteString", "internal/bytealg.IndexString", "internal/abi.NoEscape", "internal/bytealg.MakeNoZero"], named := ["internal/bytealg.MaxLen", "unicode/utf8.first", "unicode/utf8.acceptRanges"], apart := false, laid := [("unicode/utf8.acceptRanges", laid_unicode_utf8_acceptRanges), ("unicode/utf8.first", laid_unicode_utf8_first)] }
def DelimstreamNilsSaid : Prop := delimstreamNilsRow.holds Tryz.pinned (OpenSpec.ofChange delimstreamNilsSpec)

/-- ITS FALSE NEIGHBOUR: 'it returns false'. Refute it at one input. -/
def delimstreamNilsWrong : ChangeSpec := { name := "delimstreamNils", fn := fun _ => fun
  | [d] => { results := [.lit (.bool false)], args := [d] }
  | _ => none }
def DelimstreamNilsWrongFalsely : Prop := delimstreamNilsRow.holds Tryz.pinned (OpenSpec.ofChange delimstreamNilsWrong)

/-- 'datakitlaw28.GridCells': WHATEVER THE INPUT: true; the input reads as it did. -/
def gridCellsSpec : ChangeSpec := { name := "gridCells", fn := fun _ => fun
  | [d1, d2, d3] => { results := [.lit (.bool true)], args := [d1, d2, d3] }
  | _ => none }
def gridCellsRow : OpenClaim := { program := "ytpfhcnpnngjpnaagreatdoor", sum := "0e7336c16bd4ae423b22226d07a690db0140b3dafcda5c7331a5b0afec11c8bf", func := "datakit/datakitlaw28.GridCells", spec := "gridCells", inPlace := ["internal/bytealg.CountString", "internal/bytealg.IndexByteString", "internal/bytealg.IndexString", "internal/abi.NoEscape", "internal/bytealg.MakeNoZero"], recurses := true, named := ["internal/bytealg.MaxLen", "unicode/utf8.first", "unicode/utf8.acceptRanges"], loops := true, apart := false, laid := [("unicode/utf8.acceptRanges", laid_unicode_utf8_acceptRanges), ("unicode/utf8.first", laid_unicode_utf8_first)] }
def GridCellsSaid : Prop := gridCellsRow.holds Tryz.pinned (OpenSpec.ofChange gridCellsSpec)

/-- ITS FALSE NEIGHBOUR: 'it returns false'. Refute it at one input. -/
def gridCellsWrong : ChangeSpec := { name := "gridCells", fn := fun _ => fun
  | [d1, d2, d3] => { results := [.lit (.bool false)], args := [d1, d2, d3] }
  | _ => none }
def GridCellsWrongFalsely : Prop := gridCellsRow.holds Tryz.pinned (OpenSpec.ofChange gridCellsWrong)

/-- 'datakitlaw28.GridReads': WHATEVER THE INPUT: true; the input reads as it did. -/
def gridReadsSpec : ChangeSpec := { name := "gridReads", fn := fun _ => fun
  | [d1, d2, d3] => { results := [.lit (.bool true)], args := [d1, d2, d3] }
  | _ => none }
def gridReadsRow : OpenClaim := { program := "ytpfhcnpnngjpnaagreatdoor", sum := "0e7336c16bd4ae423b22226d07a690db0140b3dafcda5c7331a5b0afec11c8bf", func := "datakit/datakitlaw28.GridReads", spec := "gridReads", inPlace := ["internal/bytealg.CountString", "internal/bytealg.IndexByteString", "internal/bytealg.IndexString", "internal/abi.NoEscape", "internal/bytealg.MakeNoZero"], recurses := true, named := ["internal/bytealg.MaxLen", "unicode/utf8.first", "unicode/utf8.acceptRanges"], apart := false, laid := [("unicode/utf8.acceptRanges", laid_unicode_utf8_acceptRanges), ("unicode/utf8.first", laid_unicode_utf8_first)] }
def GridReadsSaid : Prop := gridReadsRow.holds Tryz.pinned (OpenSpec.ofChange gridReadsSpec)

/-- ITS FALSE NEIGHBOUR: 'it returns false'. Refute it at one input. -/
def gridReadsWrong : ChangeSpec := { name := "gridReads", fn := fun _ => fun
  | [d1, d2, d3] => { results := [.lit (.bool false)], args := [d1, d2, d3] }
  | _ => none }
def GridReadsWrongFalsely : Prop := gridReadsRow.holds Tryz.pinned (OpenSpec.ofChange gridReadsWrong)

/-- 'datakitlaw28.GridValues': WHATEVER THE INPUT: true; the input reads as it did. -/
def gridValuesSpec : ChangeSpec := { name := "gridValues", fn := fun _ => fun
  | [d1, d2] => { results := [.lit (.bool true)], args := [d1, d2] }
  | _ => none }
def gridValuesRow : OpenClaim := { program := "ytpfhcnpnngjpnaagreatdoor", sum := "0e7336c16bd4ae423b22226d07a690db0140b3dafcda5c7331a5b0afec11c8bf", func := "datakit/datakitlaw28.GridValues", spec := "gridValues", inPlace := ["internal/bytealg.CountString", "internal/bytealg.IndexByteString", "internal/bytealg.IndexString", "internal/abi.NoEscape", "internal/bytealg.MakeNoZero"], recurses := true, named := ["internal/bytealg.MaxLen", "unicode/utf8.first", "unicode/utf8.acceptRanges"], loops := true, apart := false, laid := [("unicode/utf8.acceptRanges", laid_unicode_utf8_acceptRanges), ("unicode/utf8.first", laid_unicode_utf8_first)] }
def GridValuesSaid : Prop := gridValuesRow.holds Tryz.pinned (OpenSpec.ofChange gridValuesSpec)

/-- ITS FALSE NEIGHBOUR: 'it returns false'. Refute it at one input. -/
def gridValuesWrong : ChangeSpec := { name := "gridValues", fn := fun _ => fun
  | [d1, d2] => { results := [.lit (.bool false)], args := [d1, d2] }
  | _ => none }
def GridValuesWrongFalsely : Prop := gridValuesRow.holds Tryz.pinned (OpenSpec.ofChange gridValuesWrong)

/-- 'datakitlaw33.DelimstreamParts': WHATEVER THE INPUT: true; the input reads as it did. -/
def delimstreamPartsSpec : ChangeSpec := { name := "delimstreamParts", fn := fun _ => fun
  | [d1, d2, d3] => { results := [.lit (.bool true)], args := [d1, d2, d3] }
  | _ => none }
def delimstreamPartsRow : OpenClaim := { program := "ytpfhcnpnngjpnaagreatdoor", sum := "0e7336c16bd4ae423b22226d07a690db0140b3dafcda5c7331a5b0afec11c8bf", func := "datakit/datakitlaw33.DelimstreamParts", spec := "delimstreamParts", inPlace := ["internal/bytealg.CountString", "internal/bytealg.IndexByteString", "internal/bytealg.IndexString", "internal/abi.NoEscape", "internal/bytealg.MakeNoZero"], recurses := true, named := ["internal/bytealg.MaxLen", "unicode/utf8.first", "unicode/utf8.acceptRanges"], apart := false, laid := [("unicode/utf8.acceptRanges", laid_unicode_utf8_acceptRanges), ("unicode/utf8.first", laid_unicode_utf8_first)] }
def DelimstreamPartsSaid : Prop := delimstreamPartsRow.holds Tryz.pinned (OpenSpec.ofChange delimstreamPartsSpec)

/-- ITS FALSE NEIGHBOUR: 'it returns false'. Refute it at one input. -/
def delimstreamPartsWrong : ChangeSpec := { name := "delimstreamParts", fn := fun _ => fun
  | [d1, d2, d3] => { results := [.lit (.bool false)], args := [d1, d2, d3] }
  | _ => none }
def DelimstreamPartsWrongFalsely : Prop := delimstreamPartsRow.holds Tryz.pinned (OpenSpec.ofChange delimstreamPartsWrong)

/-- 'datakitlaw28.GridLocates': WHATEVER THE INPUT: true; the input reads as it did. -/
def gridLocatesSpec : ChangeSpec := { name := "gridLocates", fn := fun _ => fun
  | [d1, d2, d3] => { results := [.lit (.bool true)], args := [d1, d2, d3] }
  | _ => none }
def gridLocatesRow : OpenClaim := { program := "ytpfhcnpnngjpnaagreatdoor", sum := "0e7336c16bd4ae423b22226d07a690db0140b3dafcda5c7331a5b0afec11c8bf", func := "datakit/datakitlaw28.GridLocates", spec := "gridLocates", inPlace := ["internal/bytealg.CountString", "internal/bytealg.IndexByteString", "internal/bytealg.IndexString", "internal/abi.NoEscape", "internal/bytealg.MakeNoZero"], recurses := true, named := ["internal/bytealg.MaxLen", "unicode/utf8.first", "unicode/utf8.acceptRanges"], loops := true, apart := false, laid := [("unicode/utf8.acceptRanges", laid_unicode_utf8_acceptRanges), ("unicode/utf8.first", laid_unicode_utf8_first)] }
def GridLocatesSaid : Prop := gridLocatesRow.holds Tryz.pinned (OpenSpec.ofChange gridLocatesSpec)

/-- ITS FALSE NEIGHBOUR: 'it returns false'. Refute it at one input. -/
def gridLocatesWrong : ChangeSpec := { name := "gridLocates", fn := fun _ => fun
  | [d1, d2, d3] => { results := [.lit (.bool false)], args := [d1, d2, d3] }
  | _ => none }
def GridLocatesWrongFalsely : Prop := gridLocatesRow.holds Tryz.pinned (OpenSpec.ofChange gridLocatesWrong)

/-- 'datakitlaw28.GridWrites': WHATEVER THE INPUT: true; the input reads as it did. -/
def gridWritesSpec : ChangeSpec := { name := "gridWrites", fn := fun _ => fun
  | [d1, d2] => { results := [.lit (.bool true)], args := [d1, d2] }
  | _ => none }
def gridWritesRow : OpenClaim := { program := "ytpfhcnpnngjpnaagreatdoor", sum := "0e7336c16bd4ae423b22226d07a690db0140b3dafcda5c7331a5b0afec11c8bf", func := "datakit/datakitlaw28.GridWrites", spec := "gridWrites", inPlace := ["internal/bytealg.CountString", "internal/bytealg.IndexByteString", "internal/bytealg.IndexString", "internal/abi.NoEscape", "internal/bytealg.MakeNoZero"], recurses := true, named := ["internal/bytealg.MaxLen", "unicode/utf8.first", "unicode/utf8.acceptRanges"], loops := true, apart := false, laid := [("unicode/utf8.acceptRanges", laid_unicode_utf8_acceptRanges), ("unicode/utf8.first", laid_unicode_utf8_first)] }
def GridWritesSaid : Prop := gridWritesRow.holds Tryz.pinned (OpenSpec.ofChange gridWritesSpec)

/-- ITS FALSE NEIGHBOUR: 'it returns false'. Refute it at one input. -/
def gridWritesWrong : ChangeSpec := { name := "gridWrites", fn := fun _ => fun
  | [d1, d2] => { results := [.lit (.bool false)], args := [d1, d2] }
  | _ => none }
def GridWritesWrongFalsely : Prop := gridWritesRow.holds Tryz.pinned (OpenSpec.ofChange gridWritesWrong)

/-- 'datakitlaw28.GridBack': WHATEVER THE INPUT: true; the input reads as it did. -/
def gridBackSpec : ChangeSpec := { name := "gridBack", fn := fun _ => fun
  | [d1, d2] => { results := [.lit (.bool true)], args := [d1, d2] }
  | _ => none }
def gridBackRow : OpenClaim := { program := "ytpfhcnpnngjpnaagreatdoor", sum := "0e7336c16bd4ae423b22226d07a690db0140b3dafcda5c7331a5b0afec11c8bf", func := "datakit/datakitlaw28.GridBack", spec := "gridBack", inPlace := ["internal/bytealg.CountString", "internal/bytealg.IndexByteString", "internal/bytealg.IndexString", "internal/abi.NoEscape", "internal/bytealg.MakeNoZero", "internal/bytealg.abigen_runtime_cmpstring"], unfollowed := true, recurses := true, named := ["internal/bytealg.MaxLen", "unicode/utf8.first", "unicode/utf8.acceptRanges"], loops := true, apart := false, laid := [("unicode/utf8.acceptRanges", laid_unicode_utf8_acceptRanges), ("unicode/utf8.first", laid_unicode_utf8_first)] }
def GridBackSaid : Prop := gridBackRow.holds Tryz.pinned (OpenSpec.ofChange gridBackSpec)

/-- ITS FALSE NEIGHBOUR: 'it returns false'. Refute it at one input. -/
def gridBackWrong : ChangeSpec := { name := "gridBack", fn := fun _ => fun
  | [d1, d2] => { results := [.lit (.bool false)], args := [d1, d2] }
  | _ => none }
def GridBackWrongFalsely : Prop := gridBackRow.holds Tryz.pinned (OpenSpec.ofChange gridBackWrong)

/-- 'datakitlaw28.GridLossless': WHATEVER THE INPUT: true; the input reads as it did. -/
def gridLosslessSpec : ChangeSpec := { name := "gridLossless", fn := fun _ => fun
  | [d1, d2, d3] => { results := [.lit (.bool true)], args := [d1, d2, d3] }
  | _ => none }
def gridLosslessRow : OpenClaim := { program := "ytpfhcnpnngjpnaagreatdoor", sum := "0e7336c16bd4ae423b22226d07a690db0140b3dafcda5c7331a5b0afec11c8bf", func := "datakit/datakitlaw28.GridLossless", spec := "gridLossless", inPlace := ["internal/bytealg.CountString", "internal/bytealg.IndexByteString", "internal/bytealg.IndexString", "internal/abi.NoEscape", "internal/bytealg.MakeNoZero", "internal/bytealg.abigen_runtime_cmpstring"], unfollowed := true, recurses := true, named := ["internal/bytealg.MaxLen", "unicode/utf8.first", "unicode/utf8.acceptRanges"], loops := true, apart := false, laid := [("unicode/utf8.acceptRanges", laid_unicode_utf8_acceptRanges), ("unicode/utf8.first", laid_unicode_utf8_first)] }
def GridLosslessSaid : Prop := gridLosslessRow.holds Tryz.pinned (OpenSpec.ofChange gridLosslessSpec)

/-- ITS FALSE NEIGHBOUR: 'it returns false'. Refute it at one input. -/
def gridLosslessWrong : ChangeSpec := { name := "gridLossless", fn := fun _ => fun
  | [d1, d2, d3] => { results := [.lit (.bool false)], args := [d1, d2, d3] }
  | _ => none }
def GridLosslessWrongFalsely : Prop := gridLosslessRow.holds Tryz.pinned (OpenSpec.ofChange gridLosslessWrong)

/-- 'datakitlaw28.GridAgain': WHATEVER THE INPUT: true; the input reads as it did. -/
def gridAgainSpec : ChangeSpec := { name := "gridAgain", fn := fun _ => fun
  | [d1, d2] => { results := [.lit (.bool true)], args := [d1, d2] }
  | _ => none }
def gridAgainRow : OpenClaim := { program := "ytpfhcnpnngjpnaagreatdoor", sum := "0e7336c16bd4ae423b22226d07a690db0140b3dafcda5c7331a5b0afec11c8bf", func := "datakit/datakitlaw28.GridAgain", spec := "gridAgain", inPlace := ["internal/bytealg.CountString", "internal/bytealg.IndexByteString", "internal/bytealg.IndexString", "internal/abi.NoEscape", "internal/bytealg.MakeNoZero", "internal/bytealg.abigen_runtime_cmpstring"], unfollowed := true, recurses := true, named := ["internal/bytealg.MaxLen", "unicode/utf8.first", "unicode/utf8.acceptRanges"], apart := false, laid := [("unicode/utf8.acceptRanges", laid_unicode_utf8_acceptRanges), ("unicode/utf8.first", laid_unicode_utf8_first)] }
def GridAgainSaid : Prop := gridAgainRow.holds Tryz.pinned (OpenSpec.ofChange gridAgainSpec)

/-- ITS FALSE NEIGHBOUR: 'it returns false'. Refute it at one input. -/
def gridAgainWrong : ChangeSpec := { name := "gridAgain", fn := fun _ => fun
  | [d1, d2] => { results := [.lit (.bool false)], args := [d1, d2] }
  | _ => none }
def GridAgainWrongFalsely : Prop := gridAgainRow.holds Tryz.pinned (OpenSpec.ofChange gridAgainWrong)

/- THE SECOND FORM. 'bulk': how many values and letters a reading holds, each counted each time it is reached (what is shared counts as often as it is met; a slice's spare places count too). A statement '..UptoSaid' is the law's where the arguments, and the package variables that the reading takes, are together of bulk at most 1048576: NARROWER than '..Said'. Prove '..Said' where nothing that the law and all that it calls make is longer than what came in: it says more and counts as full. Else prove '..UptoSaid'. A law counts once. -/
mutual
def uptoBulk {H : Type} : DataW H → Nat
  | .lit (.string bytes) => bytes.length + 1
  | .lit _ => 1
  | .nil => 1
  | .ptr d => uptoBulk d + 1
  | .slice elems spare => uptoBulkAll elems + uptoBulkAll spare + 1
  | .agg parts => uptoBulkAll parts + 1
  | .iface _ d => uptoBulk d + 1
  | .map entries => uptoBulkEntries entries + 1
  | .held _ => 1
def uptoBulkAll {H : Type} : List (DataW H) → Nat
  | [] => 0
  | d :: r => uptoBulk d + uptoBulkAll r
def uptoBulkEntries {H : Type} : List (Lit × DataW H) → Nat
  | [] => 0
  | x :: r => uptoBulkEntry x + uptoBulkEntries r
def uptoBulkEntry {H : Type} : Lit × DataW H → Nat
  | (.string bytes, d) => bytes.length + uptoBulk d + 1
  | (_, d) => uptoBulk d + 1
 end
def uptoSmall : (H : Type) → List (DataW H) → Bool := fun _ ds => decide (uptoBulkAll ds ≤ 1048576)
def OpenSpec.upto (s : _root_.Go.ChangeSpec) : _root_.Go.OpenSpec := { _root_.Go.OpenSpec.ofChange s with cond := some uptoSmall }

/-- 'datakitlaw33.DelimstreamReads', WHERE WHAT IT READS IS OF BULK AT MOST 1048576: true; the input reads as it did. -/
def delimstreamReadsUptoRow : OpenClaim := { program := "ytpfhcnpnngjpnaagreatdoor", sum := "0e7336c16bd4ae423b22226d07a690db0140b3dafcda5c7331a5b0afec11c8bf", func := "datakit/datakitlaw33.DelimstreamReads", spec := "delimstreamReads", inPlace := ["internal/bytealg.CountString", "internal/bytealg.IndexByteString", "internal/bytealg.IndexString", "internal/abi.NoEscape", "internal/bytealg.MakeNoZero"], recurses := true, named := ["internal/bytealg.MaxLen", "unicode/utf8.first", "unicode/utf8.acceptRanges"], apart := false, laid := [("unicode/utf8.acceptRanges", laid_unicode_utf8_acceptRanges), ("unicode/utf8.first", laid_unicode_utf8_first)], narrowed := true }
def DelimstreamReadsUptoSaid : Prop := delimstreamReadsUptoRow.holds Tryz.pinned (OpenSpec.upto delimstreamReadsSpec)

/-- 'datakitlaw33.DelimstreamFeeds', WHERE WHAT IT READS IS OF BULK AT MOST 1048576: true; the input reads as it did. -/
def delimstreamFeedsUptoRow : OpenClaim := { program := "ytpfhcnpnngjpnaagreatdoor", sum := "0e7336c16bd4ae423b22226d07a690db0140b3dafcda5c7331a5b0afec11c8bf", func := "datakit/datakitlaw33.DelimstreamFeeds", spec := "delimstreamFeeds", inPlace := ["internal/bytealg.CountString", "internal/bytealg.IndexByteString", "internal/bytealg.IndexString", "internal/abi.NoEscape", "internal/bytealg.MakeNoZero"], recurses := true, named := ["internal/bytealg.MaxLen", "unicode/utf8.first", "unicode/utf8.acceptRanges"], apart := false, laid := [("unicode/utf8.acceptRanges", laid_unicode_utf8_acceptRanges), ("unicode/utf8.first", laid_unicode_utf8_first)], narrowed := true }
def DelimstreamFeedsUptoSaid : Prop := delimstreamFeedsUptoRow.holds Tryz.pinned (OpenSpec.upto delimstreamFeedsSpec)

/-- 'datakitlaw33.DelimstreamNils', WHERE WHAT IT READS IS OF BULK AT MOST 1048576: true; the input reads as it did. -/
def delimstreamNilsUptoRow : OpenClaim := { program := "ytpfhcnpnngjpnaagreatdoor", sum := "0e7336c16bd4ae423b22226d07a690db0140b3dafcda5c7331a5b0afec11c8bf", func := "datakit/datakitlaw33.DelimstreamNils", spec := "delimstreamNils", inPlace := ["internal/bytealg.CountString", "internal/bytealg.IndexByteString", "internal/bytealg.IndexString", "internal/abi.NoEscape", "internal/bytealg.MakeNoZero"], named := ["internal/bytealg.MaxLen", "unicode/utf8.first", "unicode/utf8.acceptRanges"], apart := false, laid := [("unicode/utf8.acceptRanges", laid_unicode_utf8_acceptRanges), ("unicode/utf8.first", laid_unicode_utf8_first)], narrowed := true }
def DelimstreamNilsUptoSaid : Prop := delimstreamNilsUptoRow.holds Tryz.pinned (OpenSpec.upto delimstreamNilsSpec)

/-- 'datakitlaw28.GridCells', WHERE WHAT IT READS IS OF BULK AT MOST 1048576: true; the input reads as it did. -/
def gridCellsUptoRow : OpenClaim := { program := "ytpfhcnpnngjpnaagreatdoor", sum := "0e7336c16bd4ae423b22226d07a690db0140b3dafcda5c7331a5b0afec11c8bf", func := "datakit/datakitlaw28.GridCells", spec := "gridCells", inPlace := ["internal/bytealg.CountString", "internal/bytealg.IndexByteString", "internal/bytealg.IndexString", "internal/abi.NoEscape", "internal/bytealg.MakeNoZero"], recurses := true, named := ["internal/bytealg.MaxLen", "unicode/utf8.first", "unicode/utf8.acceptRanges"], loops := true, apart := false, laid := [("unicode/utf8.acceptRanges", laid_unicode_utf8_acceptRanges), ("unicode/utf8.first", laid_unicode_utf8_first)], narrowed := true }
def GridCellsUptoSaid : Prop := gridCellsUptoRow.holds Tryz.pinned (OpenSpec.upto gridCellsSpec)

/-- 'datakitlaw28.GridReads', WHERE WHAT IT READS IS OF BULK AT MOST 1048576: true; the input reads as it did. -/
def gridReadsUptoRow : OpenClaim := { program := "ytpfhcnpnngjpnaagreatdoor", sum := "0e7336c16bd4ae423b22226d07a690db0140b3dafcda5c7331a5b0afec11c8bf", func := "datakit/datakitlaw28.GridReads", spec := "gridReads", inPlace := ["internal/bytealg.CountString", "internal/bytealg.IndexByteString", "internal/bytealg.IndexString", "internal/abi.NoEscape", "internal/bytealg.MakeNoZero"], recurses := true, named := ["internal/bytealg.MaxLen", "unicode/utf8.first", "unicode/utf8.acceptRanges"], apart := false, laid := [("unicode/utf8.acceptRanges", laid_unicode_utf8_acceptRanges), ("unicode/utf8.first", laid_unicode_utf8_first)], narrowed := true }
def GridReadsUptoSaid : Prop := gridReadsUptoRow.holds Tryz.pinned (OpenSpec.upto gridReadsSpec)

/-- 'datakitlaw28.GridValues', WHERE WHAT IT READS IS OF BULK AT MOST 1048576: true; the input reads as it did. -/
def gridValuesUptoRow : OpenClaim := { program := "ytpfhcnpnngjpnaagreatdoor", sum := "0e7336c16bd4ae423b22226d07a690db0140b3dafcda5c7331a5b0afec11c8bf", func := "datakit/datakitlaw28.GridValues", spec := "gridValues", inPlace := ["internal/bytealg.CountString", "internal/bytealg.IndexByteString", "internal/bytealg.IndexString", "internal/abi.NoEscape", "internal/bytealg.MakeNoZero"], recurses := true, named := ["internal/bytealg.MaxLen", "unicode/utf8.first", "unicode/utf8.acceptRanges"], loops := true, apart := false, laid := [("unicode/utf8.acceptRanges", laid_unicode_utf8_acceptRanges), ("unicode/utf8.first", laid_unicode_utf8_first)], narrowed := true }
def GridValuesUptoSaid : Prop := gridValuesUptoRow.holds Tryz.pinned (OpenSpec.upto gridValuesSpec)

/-- 'datakitlaw33.DelimstreamParts', WHERE WHAT IT READS IS OF BULK AT MOST 1048576: true; the input reads as it did. -/
def delimstreamPartsUptoRow : OpenClaim := { program := "ytpfhcnpnngjpnaagreatdoor", sum := "0e7336c16bd4ae423b22226d07a690db0140b3dafcda5c7331a5b0afec11c8bf", func := "datakit/datakitlaw33.DelimstreamParts", spec := "delimstreamParts", inPlace := ["internal/bytealg.CountString", "internal/bytealg.IndexByteString", "internal/bytealg.IndexString", "internal/abi.NoEscape", "internal/bytealg.MakeNoZero"], recurses := true, named := ["internal/bytealg.MaxLen", "unicode/utf8.first", "unicode/utf8.acceptRanges"], apart := false, laid := [("unicode/utf8.acceptRanges", laid_unicode_utf8_acceptRanges), ("unicode/utf8.first", laid_unicode_utf8_first)], narrowed := true }
def DelimstreamPartsUptoSaid : Prop := delimstreamPartsUptoRow.holds Tryz.pinned (OpenSpec.upto delimstreamPartsSpec)

/-- 'datakitlaw28.GridLocates', WHERE WHAT IT READS IS OF BULK AT MOST 1048576: true; the input reads as it did. -/
def gridLocatesUptoRow : OpenClaim := { program := "ytpfhcnpnngjpnaagreatdoor", sum := "0e7336c16bd4ae423b22226d07a690db0140b3dafcda5c7331a5b0afec11c8bf", func := "datakit/datakitlaw28.GridLocates", spec := "gridLocates", inPlace := ["internal/bytealg.CountString", "internal/bytealg.IndexByteString", "internal/bytealg.IndexString", "internal/abi.NoEscape", "internal/bytealg.MakeNoZero"], recurses := true, named := ["internal/bytealg.MaxLen", "unicode/utf8.first", "unicode/utf8.acceptRanges"], loops := true, apart := false, laid := [("unicode/utf8.acceptRanges", laid_unicode_utf8_acceptRanges), ("unicode/utf8.first", laid_unicode_utf8_first)], narrowed := true }
def GridLocatesUptoSaid : Prop := gridLocatesUptoRow.holds Tryz.pinned (OpenSpec.upto gridLocatesSpec)

/-- 'datakitlaw28.GridWrites', WHERE WHAT IT READS IS OF BULK AT MOST 1048576: true; the input reads as it did. -/
def gridWritesUptoRow : OpenClaim := { program := "ytpfhcnpnngjpnaagreatdoor", sum := "0e7336c16bd4ae423b22226d07a690db0140b3dafcda5c7331a5b0afec11c8bf", func := "datakit/datakitlaw28.GridWrites", spec := "gridWrites", inPlace := ["internal/bytealg.CountString", "internal/bytealg.IndexByteString", "internal/bytealg.IndexString", "internal/abi.NoEscape", "internal/bytealg.MakeNoZero"], recurses := true, named := ["internal/bytealg.MaxLen", "unicode/utf8.first", "unicode/utf8.acceptRanges"], loops := true, apart := false, laid := [("unicode/utf8.acceptRanges", laid_unicode_utf8_acceptRanges), ("unicode/utf8.first", laid_unicode_utf8_first)], narrowed := true }
def GridWritesUptoSaid : Prop := gridWritesUptoRow.holds Tryz.pinned (OpenSpec.upto gridWritesSpec)

/-- 'datakitlaw28.GridBack', WHERE WHAT IT READS IS OF BULK AT MOST 1048576: true; the input reads as it did. -/
def gridBackUptoRow : OpenClaim := { program := "ytpfhcnpnngjpnaagreatdoor", sum := "0e7336c16bd4ae423b22226d07a690db0140b3dafcda5c7331a5b0afec11c8bf", func := "datakit/datakitlaw28.GridBack", spec := "gridBack", inPlace := ["internal/bytealg.CountString", "internal/bytealg.IndexByteString", "internal/bytealg.IndexString", "internal/abi.NoEscape", "internal/bytealg.MakeNoZero", "internal/bytealg.abigen_runtime_cmpstring"], unfollowed := true, recurses := true, named := ["internal/bytealg.MaxLen", "unicode/utf8.first", "unicode/utf8.acceptRanges"], loops := true, apart := false, laid := [("unicode/utf8.acceptRanges", laid_unicode_utf8_acceptRanges), ("unicode/utf8.first", laid_unicode_utf8_first)], narrowed := true }
def GridBackUptoSaid : Prop := gridBackUptoRow.holds Tryz.pinned (OpenSpec.upto gridBackSpec)

/-- 'datakitlaw28.GridLossless', WHERE WHAT IT READS IS OF BULK AT MOST 1048576: true; the input reads as it did. -/
def gridLosslessUptoRow : OpenClaim := { program := "ytpfhcnpnngjpnaagreatdoor", sum := "0e7336c16bd4ae423b22226d07a690db0140b3dafcda5c7331a5b0afec11c8bf", func := "datakit/datakitlaw28.GridLossless", spec := "gridLossless", inPlace := ["internal/bytealg.CountString", "internal/bytealg.IndexByteString", "internal/bytealg.IndexString", "internal/abi.NoEscape", "internal/bytealg.MakeNoZero", "internal/bytealg.abigen_runtime_cmpstring"], unfollowed := true, recurses := true, named := ["internal/bytealg.MaxLen", "unicode/utf8.first", "unicode/utf8.acceptRanges"], loops := true, apart := false, laid := [("unicode/utf8.acceptRanges", laid_unicode_utf8_acceptRanges), ("unicode/utf8.first", laid_unicode_utf8_first)], narrowed := true }
def GridLosslessUptoSaid : Prop := gridLosslessUptoRow.holds Tryz.pinned (OpenSpec.upto gridLosslessSpec)

/-- 'datakitlaw28.GridAgain', WHERE WHAT IT READS IS OF BULK AT MOST 1048576: true; the input reads as it did. -/
def gridAgainUptoRow : OpenClaim := { program := "ytpfhcnpnngjpnaagreatdoor", sum := "0e7336c16bd4ae423b22226d07a690db0140b3dafcda5c7331a5b0afec11c8bf", func := "datakit/datakitlaw28.GridAgain", spec := "gridAgain", inPlace := ["internal/bytealg.CountString", "internal/bytealg.IndexByteString", "internal/bytealg.IndexString", "internal/abi.NoEscape", "internal/bytealg.MakeNoZero", "internal/bytealg.abigen_runtime_cmpstring"], unfollowed := true, recurses := true, named := ["internal/bytealg.MaxLen", "unicode/utf8.first", "unicode/utf8.acceptRanges"], apart := false, laid := [("unicode/utf8.acceptRanges", laid_unicode_utf8_acceptRanges), ("unicode/utf8.first", laid_unicode_utf8_first)], narrowed := true }
def GridAgainUptoSaid : Prop := gridAgainUptoRow.holds Tryz.pinned (OpenSpec.upto gridAgainSpec)

end Rows
end Go.Proofs.YtpfhcnpnngjpnaaGreatDoor
