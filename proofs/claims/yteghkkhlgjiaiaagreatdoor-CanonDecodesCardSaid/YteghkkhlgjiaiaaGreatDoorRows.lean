/-
  NARROWER THAN 'FOR EVERY INPUT', by the rows' own cells (each row's printed sentence says how): CanonDecodes: laid · ValueCopies: loops, laid · ValueLooks: loops, laid · ValueCompares: loops, laid · ValueOrder: loops, laid · CanonTexts: loops, laid · ValueSorts: loops, laid · ValueChecks: loops, laid · CanonUnique: loops, laid · CanonReads: laid.
  DERIVED. THE GIVEN ROWS OF THIS SEAT. 10 by the template 'for every input the law returns true; each argument reads behind the call as it read before'; 0 by the template 'total and deterministic' (their statements: YteghkkhlgjiaiaaGreatDoorTotals.lean).
  GIVEN WITH THE SEED: the statements are not yours to turn. If you find one false, say at which input.
  Laid BY PROGRAM, IN A SANDBOX (cutbox-rows.mjs): the forced cells as the released guide's own fill.sh prints them over the translation 658780cc80a07b2a… (all of the seat's roots in one cut). By AI agents, Wed Nov 11 2026. No macro, syntax, notation, axiom, sorry.
-/
import Derived.Test.YteghkkhlgjiaiaaGreatDoorChecked
import GoSem.PinnedTables
import GoSem.Claim
import GoSem.ClaimJoined
import GoSem.ClaimMapViews
import Derived.JoinedTies
import Derived.KernelRfl
namespace Go.Proofs.YteghkkhlgjiaiaaGreatDoor
/- THE CELL 'sum', in the pinned program and in every row, IS THE sha256 OF THE DUMP (.gsa) THAT YteghkkhlgjiaiaaGreatDoorProg.lean LOADS. Nothing in Lean hashes anything: it is a label: what it is worth is what the hold of that sum in a sandbox is worth. -/
noncomputable def Tryz.pinned : Pinned := { name := "yteghkkhlgjiaiaagreatdoor", sum := "658780cc80a07b2a413d87a2af4a8c6a2bd62fd2c435120808378c5f09289e50", checked := Tryz.checked }
namespace Rows
def none {H : Type} : Left H := { results := [], args := [] }

/- WHAT THE LISTED PACKAGE-LEVEL VARIABLES READ AS WHEN THE CALL BEGINS. Each datum BY PROGRAM (the guide's laid-datum.mjs) off the statement by which the dump's own 'gosem.cut.vars' lays the variable. In a bare row this is a premise. The card (YteghkkhlgjiaiaaGreatDoorCards.lean) ties it to the program's text. -/
def laid_unicode_utf8_acceptRanges {H : Type} : DataW H := .agg [.agg [.lit (.int .u8 128), .lit (.int .u8 191)], .agg [.lit (.int .u8 160), .lit (.int .u8 191)], .agg [.lit (.int .u8 128), .lit (.int .u8 159)], .agg [.lit (.int .u8 144), .lit (.int .u8 191)], .agg [.lit (.int .u8 128), .lit (.int .u8 143)], .agg [.lit (.int .u8 0), .lit (.int .u8 0)], .agg [.lit (.int .u8 0), .lit (.int .u8 0)], .agg [.lit (.int .u8 0), .lit (.int .u8 0)], .agg [.lit (.int .u8 0), .lit (.int .u8 0)], .agg [.lit (.int .u8 0), .lit (.int .u8 0)], .agg [.lit (.int .u8 0), .lit (.int .u8 0)], .agg [.lit (.int .u8 0), .lit (.int .u8 0)], .agg [.lit (.int .u8 0), .lit (.int .u8 0)], .agg [.lit (.int .u8 0), .lit (.int .u8 0)], .agg [.lit (.int .u8 0), .lit (.int .u8 0)], .agg [.lit (.int .u8 0), .lit (.int .u8 0)]]
/-- One of Go's own tables, pinned by name: the form's constant. -/
def laid_unicode_utf8_first : DataW Unit := Go.Pinned.utf8First

/-- 'datakitlaw10.CanonDecodes': WHATEVER THE INPUT: true; the input reads as it did. -/
def canonDecodesSpec : ChangeSpec := { name := "canonDecodes", fn := fun _ => fun
  | [d] => { results := [.lit (.bool true)], args := [d] }
  | _ => none }
def canonDecodesRow : OpenClaim := { program := "yteghkkhlgjiaiaagreatdoor", sum := "658780cc80a07b2a413d87a2af4a8c6a2bd62fd2c435120808378c5f09289e50", func := "datakit/datakitlaw10.CanonDecodes", spec := "canonDecodes", inPlace := ["internal/bytealg.IndexByteString", "internal/bytealg.IndexString", "internal/bytealg.abigen_runtime_cmpstring"], unfollowed := true, recurses := true, named := ["unicode/utf8.first", "unicode/utf8.acceptRanges", "internal/bytealg.MaxLen"], apart := false, laid := [("unicode/utf8.acceptRanges", laid_unicode_utf8_acceptRanges), ("unicode/utf8.first", laid_unicode_utf8_first)] }
def CanonDecodesSaid : Prop := canonDecodesRow.holds Tryz.pinned (OpenSpec.ofChange canonDecodesSpec)

/-- ITS FALSE NEIGHBOUR: 'it returns false'. Refute it at one input. -/
def canonDecodesWrong : ChangeSpec := { name := "canonDecodes", fn := fun _ => fun
  | [d] => { results := [.lit (.bool false)], args := [d] }
  | _ => none }
def CanonDecodesWrongFalsely : Prop := canonDecodesRow.holds Tryz.pinned (OpenSpec.ofChange canonDecodesWrong)

/-- 'datakitlaw07.ValueCopies': WHATEVER THE INPUT: true; the input reads as it did. -/
def valueCopiesSpec : ChangeSpec := { name := "valueCopies", fn := fun _ => fun
  | [d] => { results := [.lit (.bool true)], args := [d] }
  | _ => none }
def valueCopiesRow : OpenClaim := { program := "yteghkkhlgjiaiaagreatdoor", sum := "658780cc80a07b2a413d87a2af4a8c6a2bd62fd2c435120808378c5f09289e50", func := "datakit/datakitlaw07.ValueCopies", spec := "valueCopies", inPlace := ["internal/bytealg.IndexByteString", "internal/bytealg.IndexString", "internal/abi.NoEscape", "internal/bytealg.MakeNoZero", "internal/bytealg.abigen_runtime_cmpstring"], unfollowed := true, recurses := true, named := ["unicode/utf8.first", "unicode/utf8.acceptRanges", "internal/bytealg.MaxLen"], loops := true, apart := false, laid := [("unicode/utf8.acceptRanges", laid_unicode_utf8_acceptRanges), ("unicode/utf8.first", laid_unicode_utf8_first)] }
def ValueCopiesSaid : Prop := valueCopiesRow.holds Tryz.pinned (OpenSpec.ofChange valueCopiesSpec)

/-- ITS FALSE NEIGHBOUR: 'it returns false'. Refute it at one input. -/
def valueCopiesWrong : ChangeSpec := { name := "valueCopies", fn := fun _ => fun
  | [d] => { results := [.lit (.bool false)], args := [d] }
  | _ => none }
def ValueCopiesWrongFalsely : Prop := valueCopiesRow.holds Tryz.pinned (OpenSpec.ofChange valueCopiesWrong)

/-- 'datakitlaw07.ValueLooks': WHATEVER THE INPUT: true; the input reads as it did. -/
def valueLooksSpec : ChangeSpec := { name := "valueLooks", fn := fun _ => fun
  | [d1, d2] => { results := [.lit (.bool true)], args := [d1, d2] }
  | _ => none }
def valueLooksRow : OpenClaim := { program := "yteghkkhlgjiaiaagreatdoor", sum := "658780cc80a07b2a413d87a2af4a8c6a2bd62fd2c435120808378c5f09289e50", func := "datakit/datakitlaw07.ValueLooks", spec := "valueLooks", inPlace := ["internal/bytealg.IndexByteString", "internal/bytealg.IndexString", "internal/abi.NoEscape", "internal/bytealg.MakeNoZero", "internal/bytealg.abigen_runtime_cmpstring"], unfollowed := true, recurses := true, named := ["unicode/utf8.first", "unicode/utf8.acceptRanges", "internal/bytealg.MaxLen"], loops := true, apart := false, laid := [("unicode/utf8.acceptRanges", laid_unicode_utf8_acceptRanges), ("unicode/utf8.first", laid_unicode_utf8_first)] }
def ValueLooksSaid : Prop := valueLooksRow.holds Tryz.pinned (OpenSpec.ofChange valueLooksSpec)

/-- ITS FALSE NEIGHBOUR: 'it returns false'. Refute it at one input. -/
def valueLooksWrong : ChangeSpec := { name := "valueLooks", fn := fun _ => fun
  | [d1, d2] => { results := [.lit (.bool false)], args := [d1, d2] }
  | _ => none }
def ValueLooksWrongFalsely : Prop := valueLooksRow.holds Tryz.pinned (OpenSpec.ofChange valueLooksWrong)

/-- 'datakitlaw07.ValueCompares': WHATEVER THE INPUT: true; the input reads as it did. -/
def valueComparesSpec : ChangeSpec := { name := "valueCompares", fn := fun _ => fun
  | [d1, d2] => { results := [.lit (.bool true)], args := [d1, d2] }
  | _ => none }
def valueComparesRow : OpenClaim := { program := "yteghkkhlgjiaiaagreatdoor", sum := "658780cc80a07b2a413d87a2af4a8c6a2bd62fd2c435120808378c5f09289e50", func := "datakit/datakitlaw07.ValueCompares", spec := "valueCompares", inPlace := ["internal/bytealg.IndexByteString", "internal/bytealg.IndexString", "internal/abi.NoEscape", "internal/bytealg.MakeNoZero", "internal/bytealg.abigen_runtime_cmpstring"], unfollowed := true, recurses := true, named := ["unicode/utf8.first", "unicode/utf8.acceptRanges", "internal/bytealg.MaxLen"], loops := true, apart := false, laid := [("unicode/utf8.acceptRanges", laid_unicode_utf8_acceptRanges), ("unicode/utf8.first", laid_unicode_utf8_first)] }
def ValueComparesSaid : Prop := valueComparesRow.holds Tryz.pinned (OpenSpec.ofChange valueComparesSpec)

/-- ITS FALSE NEIGHBOUR: 'it returns false'. Refute it at one input. -/
def valueComparesWrong : ChangeSpec := { name := "valueCompares", fn := fun _ => fun
  | [d1, d2] => { results := [.lit (.bool false)], args := [d1, d2] }
  | _ => none }
def ValueComparesWrongFalsely : Prop := valueComparesRow.holds Tryz.pinned (OpenSpec.ofChange valueComparesWrong)

/-- 'datakitlaw07.ValueOrder': WHATEVER THE INPUT: true; the input reads as it did. -/
def valueOrderSpec : ChangeSpec := { name := "valueOrder", fn := fun _ => fun
  | [d] => { results := [.lit (.bool true)], args := [d] }
  | _ => none }
def valueOrderRow : OpenClaim := { program := "yteghkkhlgjiaiaagreatdoor", sum := "658780cc80a07b2a413d87a2af4a8c6a2bd62fd2c435120808378c5f09289e50", func := "datakit/datakitlaw07.ValueOrder", spec := "valueOrder", inPlace := ["internal/bytealg.IndexByteString", "internal/bytealg.IndexString", "internal/abi.NoEscape", "internal/bytealg.MakeNoZero", "internal/bytealg.abigen_runtime_cmpstring"], unfollowed := true, recurses := true, named := ["unicode/utf8.first", "unicode/utf8.acceptRanges", "internal/bytealg.MaxLen"], loops := true, apart := false, laid := [("unicode/utf8.acceptRanges", laid_unicode_utf8_acceptRanges), ("unicode/utf8.first", laid_unicode_utf8_first)] }
def ValueOrderSaid : Prop := valueOrderRow.holds Tryz.pinned (OpenSpec.ofChange valueOrderSpec)

/-- ITS FALSE NEIGHBOUR: 'it returns false'. Refute it at one input. -/
def valueOrderWrong : ChangeSpec := { name := "valueOrder", fn := fun _ => fun
  | [d] => { results := [.lit (.bool false)], args := [d] }
  | _ => none }
def ValueOrderWrongFalsely : Prop := valueOrderRow.holds Tryz.pinned (OpenSpec.ofChange valueOrderWrong)

/-- 'datakitlaw10.CanonTexts': WHATEVER THE INPUT: true; the input reads as it did. -/
def canonTextsSpec : ChangeSpec := { name := "canonTexts", fn := fun _ => fun
  | [d] => { results := [.lit (.bool true)], args := [d] }
  | _ => none }
def canonTextsRow : OpenClaim := { program := "yteghkkhlgjiaiaagreatdoor", sum := "658780cc80a07b2a413d87a2af4a8c6a2bd62fd2c435120808378c5f09289e50", func := "datakit/datakitlaw10.CanonTexts", spec := "canonTexts", inPlace := ["internal/bytealg.IndexByteString", "internal/bytealg.IndexString", "internal/bytealg.abigen_runtime_cmpstring", "internal/abi.NoEscape", "internal/bytealg.MakeNoZero"], unfollowed := true, recurses := true, named := ["unicode/utf8.first", "unicode/utf8.acceptRanges", "internal/bytealg.MaxLen"], loops := true, apart := false, laid := [("unicode/utf8.acceptRanges", laid_unicode_utf8_acceptRanges), ("unicode/utf8.first", laid_unicode_utf8_first)] }
def CanonTextsSaid : Prop := canonTextsRow.holds Tryz.pinned (OpenSpec.ofChange canonTextsSpec)

/-- ITS FALSE NEIGHBOUR: 'it returns false'. Refute it at one input. -/
def canonTextsWrong : ChangeSpec := { name := "canonTexts", fn := fun _ => fun
  | [d] => { results := [.lit (.bool false)], args := [d] }
  | _ => none }
def CanonTextsWrongFalsely : Prop := canonTextsRow.holds Tryz.pinned (OpenSpec.ofChange canonTextsWrong)

/-- 'datakitlaw07.ValueSorts': WHATEVER THE INPUT: true; the input reads as it did. -/
def valueSortsSpec : ChangeSpec := { name := "valueSorts", fn := fun _ => fun
  | [d1, d2] => { results := [.lit (.bool true)], args := [d1, d2] }
  | _ => none }
def valueSortsRow : OpenClaim := { program := "yteghkkhlgjiaiaagreatdoor", sum := "658780cc80a07b2a413d87a2af4a8c6a2bd62fd2c435120808378c5f09289e50", func := "datakit/datakitlaw07.ValueSorts", spec := "valueSorts", inPlace := ["internal/bytealg.IndexByteString", "internal/bytealg.IndexString", "internal/abi.NoEscape", "internal/bytealg.MakeNoZero", "internal/bytealg.abigen_runtime_cmpstring"], unfollowed := true, recurses := true, named := ["unicode/utf8.first", "unicode/utf8.acceptRanges", "internal/bytealg.MaxLen"], loops := true, apart := false, laid := [("unicode/utf8.acceptRanges", laid_unicode_utf8_acceptRanges), ("unicode/utf8.first", laid_unicode_utf8_first)] }
def ValueSortsSaid : Prop := valueSortsRow.holds Tryz.pinned (OpenSpec.ofChange valueSortsSpec)

/-- ITS FALSE NEIGHBOUR: 'it returns false'. Refute it at one input. -/
def valueSortsWrong : ChangeSpec := { name := "valueSorts", fn := fun _ => fun
  | [d1, d2] => { results := [.lit (.bool false)], args := [d1, d2] }
  | _ => none }
def ValueSortsWrongFalsely : Prop := valueSortsRow.holds Tryz.pinned (OpenSpec.ofChange valueSortsWrong)

/-- 'datakitlaw07.ValueChecks': WHATEVER THE INPUT: true; the input reads as it did. -/
def valueChecksSpec : ChangeSpec := { name := "valueChecks", fn := fun _ => fun
  | [d] => { results := [.lit (.bool true)], args := [d] }
  | _ => none }
def valueChecksRow : OpenClaim := { program := "yteghkkhlgjiaiaagreatdoor", sum := "658780cc80a07b2a413d87a2af4a8c6a2bd62fd2c435120808378c5f09289e50", func := "datakit/datakitlaw07.ValueChecks", spec := "valueChecks", inPlace := ["internal/bytealg.IndexByteString", "internal/bytealg.IndexString", "internal/abi.NoEscape", "internal/bytealg.MakeNoZero", "internal/bytealg.abigen_runtime_cmpstring"], unfollowed := true, recurses := true, named := ["unicode/utf8.first", "unicode/utf8.acceptRanges", "internal/bytealg.MaxLen"], loops := true, apart := false, laid := [("unicode/utf8.acceptRanges", laid_unicode_utf8_acceptRanges), ("unicode/utf8.first", laid_unicode_utf8_first)] }
def ValueChecksSaid : Prop := valueChecksRow.holds Tryz.pinned (OpenSpec.ofChange valueChecksSpec)

/-- ITS FALSE NEIGHBOUR: 'it returns false'. Refute it at one input. -/
def valueChecksWrong : ChangeSpec := { name := "valueChecks", fn := fun _ => fun
  | [d] => { results := [.lit (.bool false)], args := [d] }
  | _ => none }
def ValueChecksWrongFalsely : Prop := valueChecksRow.holds Tryz.pinned (OpenSpec.ofChange valueChecksWrong)

/-- 'datakitlaw10.CanonUnique': WHATEVER THE INPUT: true; the input reads as it did. -/
def canonUniqueSpec : ChangeSpec := { name := "canonUnique", fn := fun _ => fun
  | [d1, d2] => { results := [.lit (.bool true)], args := [d1, d2] }
  | _ => none }
def canonUniqueRow : OpenClaim := { program := "yteghkkhlgjiaiaagreatdoor", sum := "658780cc80a07b2a413d87a2af4a8c6a2bd62fd2c435120808378c5f09289e50", func := "datakit/datakitlaw10.CanonUnique", spec := "canonUnique", inPlace := ["internal/bytealg.IndexByteString", "internal/bytealg.IndexString", "internal/bytealg.abigen_runtime_cmpstring", "internal/abi.NoEscape", "internal/bytealg.MakeNoZero"], unfollowed := true, recurses := true, named := ["unicode/utf8.first", "unicode/utf8.acceptRanges", "internal/bytealg.MaxLen"], loops := true, apart := false, laid := [("unicode/utf8.acceptRanges", laid_unicode_utf8_acceptRanges), ("unicode/utf8.first", laid_unicode_utf8_first)] }
def CanonUniqueSaid : Prop := canonUniqueRow.holds Tryz.pinned (OpenSpec.ofChange canonUniqueSpec)

/-- ITS FALSE NEIGHBOUR: 'it returns false'. Refute it at one input. -/
def canonUniqueWrong : ChangeSpec := { name := "canonUnique", fn := fun _ => fun
  | [d1, d2] => { results := [.lit (.bool false)], args := [d1, d2] }
  | _ => none }
def CanonUniqueWrongFalsely : Prop := canonUniqueRow.holds Tryz.pinned (OpenSpec.ofChange canonUniqueWrong)

/-- 'datakitlaw10.CanonReads': WHATEVER THE INPUT: true; the input reads as it did. -/
def canonReadsSpec : ChangeSpec := { name := "canonReads", fn := fun _ => fun
  | [d] => { results := [.lit (.bool true)], args := [d] }
  | _ => none }
def canonReadsRow : OpenClaim := { program := "yteghkkhlgjiaiaagreatdoor", sum := "658780cc80a07b2a413d87a2af4a8c6a2bd62fd2c435120808378c5f09289e50", func := "datakit/datakitlaw10.CanonReads", spec := "canonReads", inPlace := ["internal/bytealg.IndexByteString", "internal/bytealg.IndexString", "internal/bytealg.abigen_runtime_cmpstring", "internal/abi.NoEscape", "internal/bytealg.MakeNoZero"], unfollowed := true, recurses := true, named := ["unicode/utf8.first", "unicode/utf8.acceptRanges", "internal/bytealg.MaxLen"], apart := false, laid := [("unicode/utf8.acceptRanges", laid_unicode_utf8_acceptRanges), ("unicode/utf8.first", laid_unicode_utf8_first)] }
def CanonReadsSaid : Prop := canonReadsRow.holds Tryz.pinned (OpenSpec.ofChange canonReadsSpec)

/-- ITS FALSE NEIGHBOUR: 'it returns false'. Refute it at one input. -/
def canonReadsWrong : ChangeSpec := { name := "canonReads", fn := fun _ => fun
  | [d] => { results := [.lit (.bool false)], args := [d] }
  | _ => none }
def CanonReadsWrongFalsely : Prop := canonReadsRow.holds Tryz.pinned (OpenSpec.ofChange canonReadsWrong)

/- THE SECOND FORM. 'bulk': how many values and letters a reading holds, each counted each time it is reached (what is shared counts as often as it is met; a slice's spare places count too). A statement '..UptoSaid' is the law's where the arguments, and the package variables that the reading takes, are together of bulk at most 1048576: NARROWER than '..Said'. Prove '..Said' where nothing that the law and all that it calls make is longer than what came in: it says more and counts as full. Else prove '..UptoSaid'. A law counts once. -/
mutual
def uptoBulk {H : Type} : DataW H → Nat
  | .lit (.string bytes) => bytes.length + 1
  | .lit _ => 1
  | .nil => 1
  | .ptr d => uptoBulk d + 1
  | .slice elems spare => uptoBulkAll elems + uptoBulkAll spare + 1
  | .agg parts => uptoBulkAll parts + 1
  | .iface _ d => uptoBulk d + 1
  | .map entries => uptoBulkEntries entries + 1
  | .held _ => 1
def uptoBulkAll {H : Type} : List (DataW H) → Nat
  | [] => 0
  | d :: r => uptoBulk d + uptoBulkAll r
def uptoBulkEntries {H : Type} : List (Lit × DataW H) → Nat
  | [] => 0
  | x :: r => uptoBulkEntry x + uptoBulkEntries r
def uptoBulkEntry {H : Type} : Lit × DataW H → Nat
  | (.string bytes, d) => bytes.length + uptoBulk d + 1
  | (_, d) => uptoBulk d + 1
 end
def uptoSmall : (H : Type) → List (DataW H) → Bool := fun _ ds => decide (uptoBulkAll ds ≤ 1048576)
def OpenSpec.upto (s : _root_.Go.ChangeSpec) : _root_.Go.OpenSpec := { _root_.Go.OpenSpec.ofChange s with cond := some uptoSmall }

/-- 'datakitlaw10.CanonDecodes', WHERE WHAT IT READS IS OF BULK AT MOST 1048576: true; the input reads as it did. -/
def canonDecodesUptoRow : OpenClaim := { program := "yteghkkhlgjiaiaagreatdoor", sum := "658780cc80a07b2a413d87a2af4a8c6a2bd62fd2c435120808378c5f09289e50", func := "datakit/datakitlaw10.CanonDecodes", spec := "canonDecodes", inPlace := ["internal/bytealg.IndexByteString", "internal/bytealg.IndexString", "internal/bytealg.abigen_runtime_cmpstring"], unfollowed := true, recurses := true, named := ["unicode/utf8.first", "unicode/utf8.acceptRanges", "internal/bytealg.MaxLen"], apart := false, laid := [("unicode/utf8.acceptRanges", laid_unicode_utf8_acceptRanges), ("unicode/utf8.first", laid_unicode_utf8_first)], narrowed := true }
def CanonDecodesUptoSaid : Prop := canonDecodesUptoRow.holds Tryz.pinned (OpenSpec.upto canonDecodesSpec)

/-- 'datakitlaw07.ValueCopies', WHERE WHAT IT READS IS OF BULK AT MOST 1048576: true; the input reads as it did. -/
def valueCopiesUptoRow : OpenClaim := { program := "yteghkkhlgjiaiaagreatdoor", sum := "658780cc80a07b2a413d87a2af4a8c6a2bd62fd2c435120808378c5f09289e50", func := "datakit/datakitlaw07.ValueCopies", spec := "valueCopies", inPlace := ["internal/bytealg.IndexByteString", "internal/bytealg.IndexString", "internal/abi.NoEscape", "internal/bytealg.MakeNoZero", "internal/bytealg.abigen_runtime_cmpstring"], unfollowed := true, recurses := true, named := ["unicode/utf8.first", "unicode/utf8.acceptRanges", "internal/bytealg.MaxLen"], loops := true, apart := false, laid := [("unicode/utf8.acceptRanges", laid_unicode_utf8_acceptRanges), ("unicode/utf8.first", laid_unicode_utf8_first)], narrowed := true }
def ValueCopiesUptoSaid : Prop := valueCopiesUptoRow.holds Tryz.pinned (OpenSpec.upto valueCopiesSpec)

/-- 'datakitlaw07.ValueLooks', WHERE WHAT IT READS IS OF BULK AT MOST 1048576: true; the input reads as it did. -/
def valueLooksUptoRow : OpenClaim := { program := "yteghkkhlgjiaiaagreatdoor", sum := "658780cc80a07b2a413d87a2af4a8c6a2bd62fd2c435120808378c5f09289e50", func := "datakit/datakitlaw07.ValueLooks", spec := "valueLooks", inPlace := ["internal/bytealg.IndexByteString", "internal/bytealg.IndexString", "internal/abi.NoEscape", "internal/bytealg.MakeNoZero", "internal/bytealg.abigen_runtime_cmpstring"], unfollowed := true, recurses := true, named := ["unicode/utf8.first", "unicode/utf8.acceptRanges", "internal/bytealg.MaxLen"], loops := true, apart := false, laid := [("unicode/utf8.acceptRanges", laid_unicode_utf8_acceptRanges), ("unicode/utf8.first", laid_unicode_utf8_first)], narrowed := true }
def ValueLooksUptoSaid : Prop := valueLooksUptoRow.holds Tryz.pinned (OpenSpec.upto valueLooksSpec)

/-- 'datakitlaw07.ValueCompares', WHERE WHAT IT READS IS OF BULK AT MOST 1048576: true; the input reads as it did. -/
def valueComparesUptoRow : OpenClaim := { program := "yteghkkhlgjiaiaagreatdoor", sum := "658780cc80a07b2a413d87a2af4a8c6a2bd62fd2c435120808378c5f09289e50", func := "datakit/datakitlaw07.ValueCompares", spec := "valueCompares", inPlace := ["internal/bytealg.IndexByteString", "internal/bytealg.IndexString", "internal/abi.NoEscape", "internal/bytealg.MakeNoZero", "internal/bytealg.abigen_runtime_cmpstring"], unfollowed := true, recurses := true, named := ["unicode/utf8.first", "unicode/utf8.acceptRanges", "internal/bytealg.MaxLen"], loops := true, apart := false, laid := [("unicode/utf8.acceptRanges", laid_unicode_utf8_acceptRanges), ("unicode/utf8.first", laid_unicode_utf8_first)], narrowed := true }
def ValueComparesUptoSaid : Prop := valueComparesUptoRow.holds Tryz.pinned (OpenSpec.upto valueComparesSpec)

/-- 'datakitlaw07.ValueOrder', WHERE WHAT IT READS IS OF BULK AT MOST 1048576: true; the input reads as it did. -/
def valueOrderUptoRow : OpenClaim := { program := "yteghkkhlgjiaiaagreatdoor", sum := "658780cc80a07b2a413d87a2af4a8c6a2bd62fd2c435120808378c5f09289e50", func := "datakit/datakitlaw07.ValueOrder", spec := "valueOrder", inPlace := ["internal/bytealg.IndexByteString", "internal/bytealg.IndexString", "internal/abi.NoEscape", "internal/bytealg.MakeNoZero", "internal/bytealg.abigen_runtime_cmpstring"], unfollowed := true, recurses := true, named := ["unicode/utf8.first", "unicode/utf8.acceptRanges", "internal/bytealg.MaxLen"], loops := true, apart := false, laid := [("unicode/utf8.acceptRanges", laid_unicode_utf8_acceptRanges), ("unicode/utf8.first", laid_unicode_utf8_first)], narrowed := true }
def ValueOrderUptoSaid : Prop := valueOrderUptoRow.holds Tryz.pinned (OpenSpec.upto valueOrderSpec)

/-- 'datakitlaw10.CanonTexts', WHERE WHAT IT READS IS OF BULK AT MOST 1048576: true; the input reads as it did. -/
def canonTextsUptoRow : OpenClaim := { program := "yteghkkhlgjiaiaagreatdoor", sum := "658780cc80a07b2a413d87a2af4a8c6a2bd62fd2c435120808378c5f09289e50", func := "datakit/datakitlaw10.CanonTexts", spec := "canonTexts", inPlace := ["internal/bytealg.IndexByteString", "internal/bytealg.IndexString", "internal/bytealg.abigen_runtime_cmpstring", "internal/abi.NoEscape", "internal/bytealg.MakeNoZero"], unfollowed := true, recurses := true, named := ["unicode/utf8.first", "unicode/utf8.acceptRanges", "internal/bytealg.MaxLen"], loops := true, apart := false, laid := [("unicode/utf8.acceptRanges", laid_unicode_utf8_acceptRanges), ("unicode/utf8.first", laid_unicode_utf8_first)], narrowed := true }
def CanonTextsUptoSaid : Prop := canonTextsUptoRow.holds Tryz.pinned (OpenSpec.upto canonTextsSpec)

/-- 'datakitlaw07.ValueSorts', WHERE WHAT IT READS IS OF BULK AT MOST 1048576: true; the input reads as it did. -/
def valueSortsUptoRow : OpenClaim := { program := "yteghkkhlgjiaiaagreatdoor", sum := "658780cc80a07b2a413d87a2af4a8c6a2bd62fd2c435120808378c5f09289e50", func := "datakit/datakitlaw07.ValueSorts", spec := "valueSorts", inPlace := ["internal/bytealg.IndexByteString", "internal/bytealg.IndexString", "internal/abi.NoEscape", "internal/bytealg.MakeNoZero", "internal/bytealg.abigen_runtime_cmpstring"], unfollowed := true, recurses := true, named := ["unicode/utf8.first", "unicode/utf8.acceptRanges", "internal/bytealg.MaxLen"], loops := true, apart := false, laid := [("unicode/utf8.acceptRanges", laid_unicode_utf8_acceptRanges), ("unicode/utf8.first", laid_unicode_utf8_first)], narrowed := true }
def ValueSortsUptoSaid : Prop := valueSortsUptoRow.holds Tryz.pinned (OpenSpec.upto valueSortsSpec)

/-- 'datakitlaw07.ValueChecks', WHERE WHAT IT READS IS OF BULK AT MOST 1048576: true; the input reads as it did. -/
def valueChecksUptoRow : OpenClaim := { program := "yteghkkhlgjiaiaagreatdoor", sum := "658780cc80a07b2a413d87a2af4a8c6a2bd62fd2c435120808378c5f09289e50", func := "datakit/datakitlaw07.ValueChecks", spec := "valueChecks", inPlace := ["internal/bytealg.IndexByteString", "internal/bytealg.IndexString", "internal/abi.NoEscape", "internal/bytealg.MakeNoZero", "internal/bytealg.abigen_runtime_cmpstring"], unfollowed := true, recurses := true, named := ["unicode/utf8.first", "unicode/utf8.acceptRanges", "internal/bytealg.MaxLen"], loops := true, apart := false, laid := [("unicode/utf8.acceptRanges", laid_unicode_utf8_acceptRanges), ("unicode/utf8.first", laid_unicode_utf8_first)], narrowed := true }
def ValueChecksUptoSaid : Prop := valueChecksUptoRow.holds Tryz.pinned (OpenSpec.upto valueChecksSpec)

/-- 'datakitlaw10.CanonUnique', WHERE WHAT IT READS IS OF BULK AT MOST 1048576: true; the input reads as it did. -/
def canonUniqueUptoRow : OpenClaim := { program := "yteghkkhlgjiaiaagreatdoor", sum := "658780cc80a07b2a413d87a2af4a8c6a2bd62fd2c435120808378c5f09289e50", func := "datakit/datakitlaw10.CanonUnique", spec := "canonUnique", inPlace := ["internal/bytealg.IndexByteString", "internal/bytealg.IndexString", "internal/bytealg.abigen_runtime_cmpstring", "internal/abi.NoEscape", "internal/bytealg.MakeNoZero"], unfollowed := true, recurses := true, named := ["unicode/utf8.first", "unicode/utf8.acceptRanges", "internal/bytealg.MaxLen"], loops := true, apart := false, laid := [("unicode/utf8.acceptRanges", laid_unicode_utf8_acceptRanges), ("unicode/utf8.first", laid_unicode_utf8_first)], narrowed := true }
def CanonUniqueUptoSaid : Prop := canonUniqueUptoRow.holds Tryz.pinned (OpenSpec.upto canonUniqueSpec)

/-- 'datakitlaw10.CanonReads', WHERE WHAT IT READS IS OF BULK AT MOST 1048576: true; the input reads as it did. -/
def canonReadsUptoRow : OpenClaim := { program := "yteghkkhlgjiaiaagreatdoor", sum := "658780cc80a07b2a413d87a2af4a8c6a2bd62fd2c435120808378c5f09289e50", func := "datakit/datakitlaw10.CanonReads", spec := "canonReads", inPlace := ["internal/bytealg.IndexByteString", "internal/bytealg.IndexString", "internal/bytealg.abigen_runtime_cmpstring", "internal/abi.NoEscape", "internal/bytealg.MakeNoZero"], unfollowed := true, recurses := true, named := ["unicode/utf8.first", "unicode/utf8.acceptRanges", "internal/bytealg.MaxLen"], apart := false, laid := [("unicode/utf8.acceptRanges", laid_unicode_utf8_acceptRanges), ("unicode/utf8.first", laid_unicode_utf8_first)], narrowed := true }
def CanonReadsUptoSaid : Prop := canonReadsUptoRow.holds Tryz.pinned (OpenSpec.upto canonReadsSpec)

end Rows
end Go.Proofs.YteghkkhlgjiaiaaGreatDoor
