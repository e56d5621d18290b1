/-
  NARROWER THAN 'FOR EVERY INPUT', by the rows' own cells (each row's printed sentence says how): TablelexNexts: laid · TablelexQuotes: laid · TablelexTokens: laid · TablelexCut: laid · TablelexJoin: laid · DelimLossless: laid · DelimLimits: laid · DelimParses: laid · DelimRecords: loops, laid · DelimSniffs: laid · DelimTexts: laid · DelimBack: laid.
  DERIVED. THE GIVEN ROWS OF THIS SEAT. 12 by the template 'for every input the law returns true; each argument reads behind the call as it read before'; 0 by the template 'total and deterministic' (their statements: YtlbcpcdgpnppgaaDoorTotals.lean).
  GIVEN WITH THE SEED: the statements are not yours to turn. If you find one false, say at which input.
  Laid BY PROGRAM, IN A SANDBOX (cutbox-rows.mjs): the forced cells as the released guide's own fill.sh prints them over the translation 9295bf3026bfed6b… (all of the seat's roots in one cut). By AI agents, Wed Nov 11 2026. No macro, syntax, notation, axiom, sorry.
-/
import Derived.Test.YtlbcpcdgpnppgaaDoorChecked
import GoSem.PinnedTables
import GoSem.Claim
import GoSem.ClaimJoined
import GoSem.ClaimMapViews
import Derived.JoinedTies
import Derived.KernelRfl
namespace Go.Proofs.YtlbcpcdgpnppgaaDoor
/- THE CELL 'sum', in the pinned program and in every row, IS THE sha256 OF THE DUMP (.gsa) THAT YtlbcpcdgpnppgaaDoorProg.lean LOADS. Nothing in Lean hashes anything: it is a label: what it is worth is what the hold of that sum in a sandbox is worth. -/
noncomputable def Tryd.pinned : Pinned := { name := "ytlbcpcdgpnppgaadoor", sum := "9295bf3026bfed6bb39a72d0b33ef94096b61d3144356ab6616e2ead715370a6", checked := Tryd.checked }
namespace Rows
def none {H : Type} : Left H := { results := [], args := [] }

/- WHAT THE LISTED PACKAGE-LEVEL VARIABLES READ AS WHEN THE CALL BEGINS. Each datum BY PROGRAM (the guide's laid-datum.mjs) off the statement by which the dump's own 'gosem.cut.vars' lays the variable. In a bare row this is a premise. The card (YtlbcpcdgpnppgaaDoorCards.lean) ties it to the program's text. -/
def laid_unicode_utf8_acceptRanges {H : Type} : DataW H := .agg [.agg [.lit (.int .u8 128), .lit (.int .u8 191)], .agg [.lit (.int .u8 160), .lit (.int .u8 191)], .agg [.lit (.int .u8 128), .lit (.int .u8 159)], .agg [.lit (.int .u8 144), .lit (.int .u8 191)], .agg [.lit (.int .u8 128), .lit (.int .u8 143)], .agg [.lit (.int .u8 0), .lit (.int .u8 0)], .agg [.lit (.int .u8 0), .lit (.int .u8 0)], .agg [.lit (.int .u8 0), .lit (.int .u8 0)], .agg [.lit (.int .u8 0), .lit (.int .u8 0)], .agg [.lit (.int .u8 0), .lit (.int .u8 0)], .agg [.lit (.int .u8 0), .lit (.int .u8 0)], .agg [.lit (.int .u8 0), .lit (.int .u8 0)], .agg [.lit (.int .u8 0), .lit (.int .u8 0)], .agg [.lit (.int .u8 0), .lit (.int .u8 0)], .agg [.lit (.int .u8 0), .lit (.int .u8 0)], .agg [.lit (.int .u8 0), .lit (.int .u8 0)]]
/-- One of Go's own tables, pinned by name: the form's constant. -/
def laid_unicode_utf8_first : DataW Unit := Go.Pinned.utf8First

/-- 'datakitlaw24.TablelexNexts': WHATEVER THE INPUT: true; the input reads as it did. -/
def tablelexNextsSpec : ChangeSpec := { name := "tablelexNexts", fn := fun _ => fun
  | [d1, d2] => { results := [.lit (.bool true)], args := [d1, d2] }
  | _ => none }
def tablelexNextsRow : OpenClaim := { program := "ytlbcpcdgpnppgaadoor", sum := "9295bf3026bfed6bb39a72d0b33ef94096b61d3144356ab6616e2ead715370a6", func := "datakit/datakitlaw24.TablelexNexts", spec := "tablelexNexts", inPlace := ["internal/bytealg.IndexByteString"], unfollowed := true, recurses := true, named := ["unicode/utf8.first", "unicode/utf8.acceptRanges"], apart := false, laid := [("unicode/utf8.acceptRanges", laid_unicode_utf8_acceptRanges), ("unicode/utf8.first", laid_unicode_utf8_first)] }
def TablelexNextsSaid : Prop := tablelexNextsRow.holds Tryd.pinned (OpenSpec.ofChange tablelexNextsSpec)

/-- ITS FALSE NEIGHBOUR: 'it returns false'. Refute it at one input. -/
def tablelexNextsWrong : ChangeSpec := { name := "tablelexNexts", fn := fun _ => fun
  | [d1, d2] => { results := [.lit (.bool false)], args := [d1, d2] }
  | _ => none }
def TablelexNextsWrongFalsely : Prop := tablelexNextsRow.holds Tryd.pinned (OpenSpec.ofChange tablelexNextsWrong)

/-- 'datakitlaw24.TablelexQuotes': WHATEVER THE INPUT: true; the input reads as it did. -/
def tablelexQuotesSpec : ChangeSpec := { name := "tablelexQuotes", fn := fun _ => fun
  | [d1, d2] => { results := [.lit (.bool true)], args := [d1, d2] }
  | _ => none }
def tablelexQuotesRow : OpenClaim := { program := "ytlbcpcdgpnppgaadoor", sum := "9295bf3026bfed6bb39a72d0b33ef94096b61d3144356ab6616e2ead715370a6", func := "datakit/datakitlaw24.TablelexQuotes", spec := "tablelexQuotes", inPlace := ["internal/bytealg.IndexByteString"], unfollowed := true, recurses := true, named := ["unicode/utf8.first", "unicode/utf8.acceptRanges"], apart := false, laid := [("unicode/utf8.acceptRanges", laid_unicode_utf8_acceptRanges), ("unicode/utf8.first", laid_unicode_utf8_first)] }
def TablelexQuotesSaid : Prop := tablelexQuotesRow.holds Tryd.pinned (OpenSpec.ofChange tablelexQuotesSpec)

/-- ITS FALSE NEIGHBOUR: 'it returns false'. Refute it at one input. -/
def tablelexQuotesWrong : ChangeSpec := { name := "tablelexQuotes", fn := fun _ => fun
  | [d1, d2] => { results := [.lit (.bool false)], args := [d1, d2] }
  | _ => none }
def TablelexQuotesWrongFalsely : Prop := tablelexQuotesRow.holds Tryd.pinned (OpenSpec.ofChange tablelexQuotesWrong)

/-- 'datakitlaw24.TablelexTokens': WHATEVER THE INPUT: true; the input reads as it did. -/
def tablelexTokensSpec : ChangeSpec := { name := "tablelexTokens", fn := fun _ => fun
  | [d] => { results := [.lit (.bool true)], args := [d] }
  | _ => none }
def tablelexTokensRow : OpenClaim := { program := "ytlbcpcdgpnppgaadoor", sum := "9295bf3026bfed6bb39a72d0b33ef94096b61d3144356ab6616e2ead715370a6", func := "datakit/datakitlaw24.TablelexTokens", spec := "tablelexTokens", inPlace := ["internal/bytealg.IndexByteString"], unfollowed := true, recurses := true, named := ["unicode/utf8.first", "unicode/utf8.acceptRanges"], apart := false, laid := [("unicode/utf8.acceptRanges", laid_unicode_utf8_acceptRanges), ("unicode/utf8.first", laid_unicode_utf8_first)] }
def TablelexTokensSaid : Prop := tablelexTokensRow.holds Tryd.pinned (OpenSpec.ofChange tablelexTokensSpec)

/-- ITS FALSE NEIGHBOUR: 'it returns false'. Refute it at one input. -/
def tablelexTokensWrong : ChangeSpec := { name := "tablelexTokens", fn := fun _ => fun
  | [d] => { results := [.lit (.bool false)], args := [d] }
  | _ => none }
def TablelexTokensWrongFalsely : Prop := tablelexTokensRow.holds Tryd.pinned (OpenSpec.ofChange tablelexTokensWrong)

/-- 'datakitlaw24.TablelexCut': WHATEVER THE INPUT: true; the input reads as it did. -/
def tablelexCutSpec : ChangeSpec := { name := "tablelexCut", fn := fun _ => fun
  | [d1, d2] => { results := [.lit (.bool true)], args := [d1, d2] }
  | _ => none }
def tablelexCutRow : OpenClaim := { program := "ytlbcpcdgpnppgaadoor", sum := "9295bf3026bfed6bb39a72d0b33ef94096b61d3144356ab6616e2ead715370a6", func := "datakit/datakitlaw24.TablelexCut", spec := "tablelexCut", inPlace := ["internal/bytealg.IndexByteString"], unfollowed := true, recurses := true, named := ["unicode/utf8.first", "unicode/utf8.acceptRanges"], apart := false, laid := [("unicode/utf8.acceptRanges", laid_unicode_utf8_acceptRanges), ("unicode/utf8.first", laid_unicode_utf8_first)] }
def TablelexCutSaid : Prop := tablelexCutRow.holds Tryd.pinned (OpenSpec.ofChange tablelexCutSpec)

/-- ITS FALSE NEIGHBOUR: 'it returns false'. Refute it at one input. -/
def tablelexCutWrong : ChangeSpec := { name := "tablelexCut", fn := fun _ => fun
  | [d1, d2] => { results := [.lit (.bool false)], args := [d1, d2] }
  | _ => none }
def TablelexCutWrongFalsely : Prop := tablelexCutRow.holds Tryd.pinned (OpenSpec.ofChange tablelexCutWrong)

/-- 'datakitlaw24.TablelexJoin': WHATEVER THE INPUT: true; the input reads as it did. -/
def tablelexJoinSpec : ChangeSpec := { name := "tablelexJoin", fn := fun _ => fun
  | [d] => { results := [.lit (.bool true)], args := [d] }
  | _ => none }
def tablelexJoinRow : OpenClaim := { program := "ytlbcpcdgpnppgaadoor", sum := "9295bf3026bfed6bb39a72d0b33ef94096b61d3144356ab6616e2ead715370a6", func := "datakit/datakitlaw24.TablelexJoin", spec := "tablelexJoin", inPlace := ["internal/bytealg.IndexByteString", "internal/abi.NoEscape"], unfollowed := true, recurses := true, named := ["unicode/utf8.first", "unicode/utf8.acceptRanges"], apart := false, laid := [("unicode/utf8.acceptRanges", laid_unicode_utf8_acceptRanges), ("unicode/utf8.first", laid_unicode_utf8_first)] }
def TablelexJoinSaid : Prop := tablelexJoinRow.holds Tryd.pinned (OpenSpec.ofChange tablelexJoinSpec)

/-- ITS FALSE NEIGHBOUR: 'it returns false'. Refute it at one input. -/
def tablelexJoinWrong : ChangeSpec := { name := "tablelexJoin", fn := fun _ => fun
  | [d] => { results := [.lit (.bool false)], args := [d] }
  | _ => none }
def TablelexJoinWrongFalsely : Prop := tablelexJoinRow.holds Tryd.pinned (OpenSpec.ofChange tablelexJoinWrong)

/-- 'datakitlaw27.DelimLossless': WHATEVER THE INPUT: true; the input reads as it did. -/
def delimLosslessSpec : ChangeSpec := { name := "delimLossless", fn := fun _ => fun
  | [d1, d2] => { results := [.lit (.bool true)], args := [d1, d2] }
  | _ => none }
def delimLosslessRow : OpenClaim := { program := "ytlbcpcdgpnppgaadoor", sum := "9295bf3026bfed6bb39a72d0b33ef94096b61d3144356ab6616e2ead715370a6", func := "datakit/datakitlaw27.DelimLossless", spec := "delimLossless", inPlace := ["internal/bytealg.CountString", "internal/bytealg.IndexByteString", "internal/bytealg.IndexString", "internal/abi.NoEscape", "internal/bytealg.MakeNoZero"], recurses := true, named := ["internal/bytealg.MaxLen", "unicode/utf8.first", "unicode/utf8.acceptRanges"], apart := false, laid := [("unicode/utf8.acceptRanges", laid_unicode_utf8_acceptRanges), ("unicode/utf8.first", laid_unicode_utf8_first)] }
def DelimLosslessSaid : Prop := delimLosslessRow.holds Tryd.pinned (OpenSpec.ofChange delimLosslessSpec)

/-- ITS FALSE NEIGHBOUR: 'it returns false'. Refute it at one input. -/
def delimLosslessWrong : ChangeSpec := { name := "delimLossless", fn := fun _ => fun
  | [d1, d2] => { results := [.lit (.bool false)], args := [d1, d2] }
  | _ => none }
def DelimLosslessWrongFalsely : Prop := delimLosslessRow.holds Tryd.pinned (OpenSpec.ofChange delimLosslessWrong)

/-- 'datakitlaw27.DelimLimits': WHATEVER THE INPUT: true; the input reads as it did. -/
def delimLimitsSpec : ChangeSpec := { name := "delimLimits", fn := fun _ => fun
  | [d1, d2, d3] => { results := [.lit (.bool true)], args := [d1, d2, d3] }
  | _ => none }
def delimLimitsRow : OpenClaim := { program := "ytlbcpcdgpnppgaadoor", sum := "9295bf3026bfed6bb39a72d0b33ef94096b61d3144356ab6616e2ead715370a6", func := "datakit/datakitlaw27.DelimLimits", spec := "delimLimits", inPlace := ["internal/bytealg.CountString", "internal/bytealg.IndexByteString", "internal/bytealg.IndexString", "internal/abi.NoEscape", "internal/bytealg.MakeNoZero"], recurses := true, named := ["internal/bytealg.MaxLen", "unicode/utf8.first", "unicode/utf8.acceptRanges"], apart := false, laid := [("unicode/utf8.acceptRanges", laid_unicode_utf8_acceptRanges), ("unicode/utf8.first", laid_unicode_utf8_first)] }
def DelimLimitsSaid : Prop := delimLimitsRow.holds Tryd.pinned (OpenSpec.ofChange delimLimitsSpec)

/-- ITS FALSE NEIGHBOUR: 'it returns false'. Refute it at one input. -/
def delimLimitsWrong : ChangeSpec := { name := "delimLimits", fn := fun _ => fun
  | [d1, d2, d3] => { results := [.lit (.bool false)], args := [d1, d2, d3] }
  | _ => none }
def DelimLimitsWrongFalsely : Prop := delimLimitsRow.holds Tryd.pinned (OpenSpec.ofChange delimLimitsWrong)

/-- 'datakitlaw27.DelimParses': WHATEVER THE INPUT: true; the input reads as it did. -/
def delimParsesSpec : ChangeSpec := { name := "delimParses", fn := fun _ => fun
  | [d1, d2, d3] => { results := [.lit (.bool true)], args := [d1, d2, d3] }
  | _ => none }
def delimParsesRow : OpenClaim := { program := "ytlbcpcdgpnppgaadoor", sum := "9295bf3026bfed6bb39a72d0b33ef94096b61d3144356ab6616e2ead715370a6", func := "datakit/datakitlaw27.DelimParses", spec := "delimParses", inPlace := ["internal/bytealg.CountString", "internal/bytealg.IndexByteString", "internal/bytealg.IndexString", "internal/abi.NoEscape", "internal/bytealg.MakeNoZero"], recurses := true, named := ["internal/bytealg.MaxLen", "unicode/utf8.first", "unicode/utf8.acceptRanges"], apart := false, laid := [("unicode/utf8.acceptRanges", laid_unicode_utf8_acceptRanges), ("unicode/utf8.first", laid_unicode_utf8_first)] }
def DelimParsesSaid : Prop := delimParsesRow.holds Tryd.pinned (OpenSpec.ofChange delimParsesSpec)

/-- ITS FALSE NEIGHBOUR: 'it returns false'. Refute it at one input. -/
def delimParsesWrong : ChangeSpec := { name := "delimParses", fn := fun _ => fun
  | [d1, d2, d3] => { results := [.lit (.bool false)], args := [d1, d2, d3] }
  | _ => none }
def DelimParsesWrongFalsely : Prop := delimParsesRow.holds Tryd.pinned (OpenSpec.ofChange delimParsesWrong)

/-- 'datakitlaw27.DelimRecords': WHATEVER THE INPUT: true; the input reads as it did. -/
def delimRecordsSpec : ChangeSpec := { name := "delimRecords", fn := fun _ => fun
  | [d1, d2] => { results := [.lit (.bool true)], args := [d1, d2] }
  | _ => none }
def delimRecordsRow : OpenClaim := { program := "ytlbcpcdgpnppgaadoor", sum := "9295bf3026bfed6bb39a72d0b33ef94096b61d3144356ab6616e2ead715370a6", func := "datakit/datakitlaw27.DelimRecords", spec := "delimRecords", inPlace := ["internal/bytealg.CountString", "internal/bytealg.IndexByteString", "internal/bytealg.IndexString", "internal/abi.NoEscape", "internal/bytealg.MakeNoZero"], recurses := true, named := ["internal/bytealg.MaxLen", "unicode/utf8.first", "unicode/utf8.acceptRanges"], loops := true, apart := false, laid := [("unicode/utf8.acceptRanges", laid_unicode_utf8_acceptRanges), ("unicode/utf8.first", laid_unicode_utf8_first)] }
def DelimRecordsSaid : Prop := delimRecordsRow.holds Tryd.pinned (OpenSpec.ofChange delimRecordsSpec)

/-- ITS FALSE NEIGHBOUR: 'it returns false'. Refute it at one input. -/
def delimRecordsWrong : ChangeSpec := { name := "delimRecords", fn := fun _ => fun
  | [d1, d2] => { results := [.lit (.bool false)], args := [d1, d2] }
  | _ => none }
def DelimRecordsWrongFalsely : Prop := delimRecordsRow.holds Tryd.pinned (OpenSpec.ofChange delimRecordsWrong)

/-- 'datakitlaw27.DelimSniffs': WHATEVER THE INPUT: true; the input reads as it did. -/
def delimSniffsSpec : ChangeSpec := { name := "delimSniffs", fn := fun _ => fun
  | [d] => { results := [.lit (.bool true)], args := [d] }
  | _ => none }
def delimSniffsRow : OpenClaim := { program := "ytlbcpcdgpnppgaadoor", sum := "9295bf3026bfed6bb39a72d0b33ef94096b61d3144356ab6616e2ead715370a6", func := "datakit/datakitlaw27.DelimSniffs", spec := "delimSniffs", inPlace := ["internal/bytealg.CountString", "internal/bytealg.IndexByteString", "internal/bytealg.IndexString", "internal/abi.NoEscape", "internal/bytealg.MakeNoZero"], recurses := true, named := ["internal/bytealg.MaxLen", "unicode/utf8.first", "unicode/utf8.acceptRanges"], apart := false, laid := [("unicode/utf8.acceptRanges", laid_unicode_utf8_acceptRanges), ("unicode/utf8.first", laid_unicode_utf8_first)] }
def DelimSniffsSaid : Prop := delimSniffsRow.holds Tryd.pinned (OpenSpec.ofChange delimSniffsSpec)

/-- ITS FALSE NEIGHBOUR: 'it returns false'. Refute it at one input. -/
def delimSniffsWrong : ChangeSpec := { name := "delimSniffs", fn := fun _ => fun
  | [d] => { results := [.lit (.bool false)], args := [d] }
  | _ => none }
def DelimSniffsWrongFalsely : Prop := delimSniffsRow.holds Tryd.pinned (OpenSpec.ofChange delimSniffsWrong)

/-- 'datakitlaw27.DelimTexts': WHATEVER THE INPUT: true; the input reads as it did. -/
def delimTextsSpec : ChangeSpec := { name := "delimTexts", fn := fun _ => fun
  | [d1, d2, d3] => { results := [.lit (.bool true)], args := [d1, d2, d3] }
  | _ => none }
def delimTextsRow : OpenClaim := { program := "ytlbcpcdgpnppgaadoor", sum := "9295bf3026bfed6bb39a72d0b33ef94096b61d3144356ab6616e2ead715370a6", func := "datakit/datakitlaw27.DelimTexts", spec := "delimTexts", inPlace := ["internal/bytealg.CountString", "internal/bytealg.IndexByteString", "internal/bytealg.IndexString", "internal/abi.NoEscape", "internal/bytealg.MakeNoZero"], recurses := true, named := ["internal/bytealg.MaxLen", "unicode/utf8.first", "unicode/utf8.acceptRanges"], apart := false, laid := [("unicode/utf8.acceptRanges", laid_unicode_utf8_acceptRanges), ("unicode/utf8.first", laid_unicode_utf8_first)] }
def DelimTextsSaid : Prop := delimTextsRow.holds Tryd.pinned (OpenSpec.ofChange delimTextsSpec)

/-- ITS FALSE NEIGHBOUR: 'it returns false'. Refute it at one input. -/
def delimTextsWrong : ChangeSpec := { name := "delimTexts", fn := fun _ => fun
  | [d1, d2, d3] => { results := [.lit (.bool false)], args := [d1, d2, d3] }
  | _ => none }
def DelimTextsWrongFalsely : Prop := delimTextsRow.holds Tryd.pinned (OpenSpec.ofChange delimTextsWrong)

/-- 'datakitlaw27.DelimBack': WHATEVER THE INPUT: true; the input reads as it did. -/
def delimBackSpec : ChangeSpec := { name := "delimBack", fn := fun _ => fun
  | [d1, d2, d3] => { results := [.lit (.bool true)], args := [d1, d2, d3] }
  | _ => none }
def delimBackRow : OpenClaim := { program := "ytlbcpcdgpnppgaadoor", sum := "9295bf3026bfed6bb39a72d0b33ef94096b61d3144356ab6616e2ead715370a6", func := "datakit/datakitlaw27.DelimBack", spec := "delimBack", inPlace := ["internal/bytealg.CountString", "internal/bytealg.IndexByteString", "internal/bytealg.IndexString", "internal/abi.NoEscape", "internal/bytealg.MakeNoZero"], recurses := true, named := ["internal/bytealg.MaxLen", "unicode/utf8.first", "unicode/utf8.acceptRanges"], apart := false, laid := [("unicode/utf8.acceptRanges", laid_unicode_utf8_acceptRanges), ("unicode/utf8.first", laid_unicode_utf8_first)] }
def DelimBackSaid : Prop := delimBackRow.holds Tryd.pinned (OpenSpec.ofChange delimBackSpec)

/-- ITS FALSE NEIGHBOUR: 'it returns false'. Refute it at one input. -/
def delimBackWrong : ChangeSpec := { name := "delimBack", fn := fun _ => fun
  | [d1, d2, d3] => { results := [.lit (.bool false)], args := [d1, d2, d3] }
  | _ => none }
def DelimBackWrongFalsely : Prop := delimBackRow.holds Tryd.pinned (OpenSpec.ofChange delimBackWrong)

/- THE SECOND FORM. 'bulk': how many values and letters a reading holds, each counted each time it is reached (what is shared counts as often as it is met; a slice's spare places count too). A statement '..UptoSaid' is the law's where the arguments, and the package variables that the reading takes, are together of bulk at most 1048576: NARROWER than '..Said'. Prove '..Said' where nothing that the law and all that it calls make is longer than what came in: it says more and counts as full. Else prove '..UptoSaid'. A law counts once. -/
mutual
def uptoBulk {H : Type} : DataW H → Nat
  | .lit (.string bytes) => bytes.length + 1
  | .lit _ => 1
  | .nil => 1
  | .ptr d => uptoBulk d + 1
  | .slice elems spare => uptoBulkAll elems + uptoBulkAll spare + 1
  | .agg parts => uptoBulkAll parts + 1
  | .iface _ d => uptoBulk d + 1
  | .map entries => uptoBulkEntries entries + 1
  | .held _ => 1
def uptoBulkAll {H : Type} : List (DataW H) → Nat
  | [] => 0
  | d :: r => uptoBulk d + uptoBulkAll r
def uptoBulkEntries {H : Type} : List (Lit × DataW H) → Nat
  | [] => 0
  | x :: r => uptoBulkEntry x + uptoBulkEntries r
def uptoBulkEntry {H : Type} : Lit × DataW H → Nat
  | (.string bytes, d) => bytes.length + uptoBulk d + 1
  | (_, d) => uptoBulk d + 1
 end
def uptoSmall : (H : Type) → List (DataW H) → Bool := fun _ ds => decide (uptoBulkAll ds ≤ 1048576)
def OpenSpec.upto (s : _root_.Go.ChangeSpec) : _root_.Go.OpenSpec := { _root_.Go.OpenSpec.ofChange s with cond := some uptoSmall }

/-- 'datakitlaw24.TablelexNexts', WHERE WHAT IT READS IS OF BULK AT MOST 1048576: true; the input reads as it did. -/
def tablelexNextsUptoRow : OpenClaim := { program := "ytlbcpcdgpnppgaadoor", sum := "9295bf3026bfed6bb39a72d0b33ef94096b61d3144356ab6616e2ead715370a6", func := "datakit/datakitlaw24.TablelexNexts", spec := "tablelexNexts", inPlace := ["internal/bytealg.IndexByteString"], unfollowed := true, recurses := true, named := ["unicode/utf8.first", "unicode/utf8.acceptRanges"], apart := false, laid := [("unicode/utf8.acceptRanges", laid_unicode_utf8_acceptRanges), ("unicode/utf8.first", laid_unicode_utf8_first)], narrowed := true }
def TablelexNextsUptoSaid : Prop := tablelexNextsUptoRow.holds Tryd.pinned (OpenSpec.upto tablelexNextsSpec)

/-- 'datakitlaw24.TablelexQuotes', WHERE WHAT IT READS IS OF BULK AT MOST 1048576: true; the input reads as it did. -/
def tablelexQuotesUptoRow : OpenClaim := { program := "ytlbcpcdgpnppgaadoor", sum := "9295bf3026bfed6bb39a72d0b33ef94096b61d3144356ab6616e2ead715370a6", func := "datakit/datakitlaw24.TablelexQuotes", spec := "tablelexQuotes", inPlace := ["internal/bytealg.IndexByteString"], unfollowed := true, recurses := true, named := ["unicode/utf8.first", "unicode/utf8.acceptRanges"], apart := false, laid := [("unicode/utf8.acceptRanges", laid_unicode_utf8_acceptRanges), ("unicode/utf8.first", laid_unicode_utf8_first)], narrowed := true }
def TablelexQuotesUptoSaid : Prop := tablelexQuotesUptoRow.holds Tryd.pinned (OpenSpec.upto tablelexQuotesSpec)

/-- 'datakitlaw24.TablelexTokens', WHERE WHAT IT READS IS OF BULK AT MOST 1048576: true; the input reads as it did. -/
def tablelexTokensUptoRow : OpenClaim := { program := "ytlbcpcdgpnppgaadoor", sum := "9295bf3026bfed6bb39a72d0b33ef94096b61d3144356ab6616e2ead715370a6", func := "datakit/datakitlaw24.TablelexTokens", spec := "tablelexTokens", inPlace := ["internal/bytealg.IndexByteString"], unfollowed := true, recurses := true, named := ["unicode/utf8.first", "unicode/utf8.acceptRanges"], apart := false, laid := [("unicode/utf8.acceptRanges", laid_unicode_utf8_acceptRanges), ("unicode/utf8.first", laid_unicode_utf8_first)], narrowed := true }
def TablelexTokensUptoSaid : Prop := tablelexTokensUptoRow.holds Tryd.pinned (OpenSpec.upto tablelexTokensSpec)

/-- 'datakitlaw24.TablelexCut', WHERE WHAT IT READS IS OF BULK AT MOST 1048576: true; the input reads as it did. -/
def tablelexCutUptoRow : OpenClaim := { program := "ytlbcpcdgpnppgaadoor", sum := "9295bf3026bfed6bb39a72d0b33ef94096b61d3144356ab6616e2ead715370a6", func := "datakit/datakitlaw24.TablelexCut", spec := "tablelexCut", inPlace := ["internal/bytealg.IndexByteString"], unfollowed := true, recurses := true, named := ["unicode/utf8.first", "unicode/utf8.acceptRanges"], apart := false, laid := [("unicode/utf8.acceptRanges", laid_unicode_utf8_acceptRanges), ("unicode/utf8.first", laid_unicode_utf8_first)], narrowed := true }
def TablelexCutUptoSaid : Prop := tablelexCutUptoRow.holds Tryd.pinned (OpenSpec.upto tablelexCutSpec)

/-- 'datakitlaw24.TablelexJoin', WHERE WHAT IT READS IS OF BULK AT MOST 1048576: true; the input reads as it did. -/
def tablelexJoinUptoRow : OpenClaim := { program := "ytlbcpcdgpnppgaadoor", sum := "9295bf3026bfed6bb39a72d0b33ef94096b61d3144356ab6616e2ead715370a6", func := "datakit/datakitlaw24.TablelexJoin", spec := "tablelexJoin", inPlace := ["internal/bytealg.IndexByteString", "internal/abi.NoEscape"], unfollowed := true, recurses := true, named := ["unicode/utf8.first", "unicode/utf8.acceptRanges"], apart := false, laid := [("unicode/utf8.acceptRanges", laid_unicode_utf8_acceptRanges), ("unicode/utf8.first", laid_unicode_utf8_first)], narrowed := true }
def TablelexJoinUptoSaid : Prop := tablelexJoinUptoRow.holds Tryd.pinned (OpenSpec.upto tablelexJoinSpec)

/-- 'datakitlaw27.DelimLossless', WHERE WHAT IT READS IS OF BULK AT MOST 1048576: true; the input reads as it did. -/
def delimLosslessUptoRow : OpenClaim := { program := "ytlbcpcdgpnppgaadoor", sum := "9295bf3026bfed6bb39a72d0b33ef94096b61d3144356ab6616e2ead715370a6", func := "datakit/datakitlaw27.DelimLossless", spec := "delimLossless", inPlace := ["internal/bytealg.CountString", "internal/bytealg.IndexByteString", "internal/bytealg.IndexString", "internal/abi.NoEscape", "internal/bytealg.MakeNoZero"], recurses := true, named := ["internal/bytealg.MaxLen", "unicode/utf8.first", "unicode/utf8.acceptRanges"], apart := false, laid := [("unicode/utf8.acceptRanges", laid_unicode_utf8_acceptRanges), ("unicode/utf8.first", laid_unicode_utf8_first)], narrowed := true }
def DelimLosslessUptoSaid : Prop := delimLosslessUptoRow.holds Tryd.pinned (OpenSpec.upto delimLosslessSpec)

/-- 'datakitlaw27.DelimLimits', WHERE WHAT IT READS IS OF BULK AT MOST 1048576: true; the input reads as it did. -/
def delimLimitsUptoRow : OpenClaim := { program := "ytlbcpcdgpnppgaadoor", sum := "9295bf3026bfed6bb39a72d0b33ef94096b61d3144356ab6616e2ead715370a6", func := "datakit/datakitlaw27.DelimLimits", spec := "delimLimits", inPlace := ["internal/bytealg.CountString", "internal/bytealg.IndexByteString", "internal/bytealg.IndexString", "internal/abi.NoEscape", "internal/bytealg.MakeNoZero"], recurses := true, named := ["internal/bytealg.MaxLen", "unicode/utf8.first", "unicode/utf8.acceptRanges"], apart := false, laid := [("unicode/utf8.acceptRanges", laid_unicode_utf8_acceptRanges), ("unicode/utf8.first", laid_unicode_utf8_first)], narrowed := true }
def DelimLimitsUptoSaid : Prop := delimLimitsUptoRow.holds Tryd.pinned (OpenSpec.upto delimLimitsSpec)

/-- 'datakitlaw27.DelimParses', WHERE WHAT IT READS IS OF BULK AT MOST 1048576: true; the input reads as it did. -/
def delimParsesUptoRow : OpenClaim := { program := "ytlbcpcdgpnppgaadoor", sum := "9295bf3026bfed6bb39a72d0b33ef94096b61d3144356ab6616e2ead715370a6", func := "datakit/datakitlaw27.DelimParses", spec := "delimParses", inPlace := ["internal/bytealg.CountString", "internal/bytealg.IndexByteString", "internal/bytealg.IndexString", "internal/abi.NoEscape", "internal/bytealg.MakeNoZero"], recurses := true, named := ["internal/bytealg.MaxLen", "unicode/utf8.first", "unicode/utf8.acceptRanges"], apart := false, laid := [("unicode/utf8.acceptRanges", laid_unicode_utf8_acceptRanges), ("unicode/utf8.first", laid_unicode_utf8_first)], narrowed := true }
def DelimParsesUptoSaid : Prop := delimParsesUptoRow.holds Tryd.pinned (OpenSpec.upto delimParsesSpec)

/-- 'datakitlaw27.DelimRecords', WHERE WHAT IT READS IS OF BULK AT MOST 1048576: true; the input reads as it did. -/
def delimRecordsUptoRow : OpenClaim := { program := "ytlbcpcdgpnppgaadoor", sum := "9295bf3026bfed6bb39a72d0b33ef94096b61d3144356ab6616e2ead715370a6", func := "datakit/datakitlaw27.DelimRecords", spec := "delimRecords", inPlace := ["internal/bytealg.CountString", "internal/bytealg.IndexByteString", "internal/bytealg.IndexString", "internal/abi.NoEscape", "internal/bytealg.MakeNoZero"], recurses := true, named := ["internal/bytealg.MaxLen", "unicode/utf8.first", "unicode/utf8.acceptRanges"], loops := true, apart := false, laid := [("unicode/utf8.acceptRanges", laid_unicode_utf8_acceptRanges), ("unicode/utf8.first", laid_unicode_utf8_first)], narrowed := true }
def DelimRecordsUptoSaid : Prop := delimRecordsUptoRow.holds Tryd.pinned (OpenSpec.upto delimRecordsSpec)

/-- 'datakitlaw27.DelimSniffs', WHERE WHAT IT READS IS OF BULK AT MOST 1048576: true; the input reads as it did. -/
def delimSniffsUptoRow : OpenClaim := { program := "ytlbcpcdgpnppgaadoor", sum := "9295bf3026bfed6bb39a72d0b33ef94096b61d3144356ab6616e2ead715370a6", func := "datakit/datakitlaw27.DelimSniffs", spec := "delimSniffs", inPlace := ["internal/bytealg.CountString", "internal/bytealg.IndexByteString", "internal/bytealg.IndexString", "internal/abi.NoEscape", "internal/bytealg.MakeNoZero"], recurses := true, named := ["internal/bytealg.MaxLen", "unicode/utf8.first", "unicode/utf8.acceptRanges"], apart := false, laid := [("unicode/utf8.acceptRanges", laid_unicode_utf8_acceptRanges), ("unicode/utf8.first", laid_unicode_utf8_first)], narrowed := true }
def DelimSniffsUptoSaid : Prop := delimSniffsUptoRow.holds Tryd.pinned (OpenSpec.upto delimSniffsSpec)

/-- 'datakitlaw27.DelimTexts', WHERE WHAT IT READS IS OF BULK AT MOST 1048576: true; the input reads as it did. -/
def delimTextsUptoRow : OpenClaim := { program := "ytlbcpcdgpnppgaadoor", sum := "9295bf3026bfed6bb39a72d0b33ef94096b61d3144356ab6616e2ead715370a6", func := "datakit/datakitlaw27.DelimTexts", spec := "delimTexts", inPlace := ["internal/bytealg.CountString", "internal/bytealg.IndexByteString", "internal/bytealg.IndexString", "internal/abi.NoEscape", "internal/bytealg.MakeNoZero"], recurses := true, named := ["internal/bytealg.MaxLen", "unicode/utf8.first", "unicode/utf8.acceptRanges"], apart := false, laid := [("unicode/utf8.acceptRanges", laid_unicode_utf8_acceptRanges), ("unicode/utf8.first", laid_unicode_utf8_first)], narrowed := true }
def DelimTextsUptoSaid : Prop := delimTextsUptoRow.holds Tryd.pinned (OpenSpec.upto delimTextsSpec)

/-- 'datakitlaw27.DelimBack', WHERE WHAT IT READS IS OF BULK AT MOST 1048576: true; the input reads as it did. -/
def delimBackUptoRow : OpenClaim := { program := "ytlbcpcdgpnppgaadoor", sum := "9295bf3026bfed6bb39a72d0b33ef94096b61d3144356ab6616e2ead715370a6", func := "datakit/datakitlaw27.DelimBack", spec := "delimBack", inPlace := ["internal/bytealg.CountString", "internal/bytealg.IndexByteString", "internal/bytealg.IndexString", "internal/abi.NoEscape", "internal/bytealg.MakeNoZero"], recurses := true, named := ["internal/bytealg.MaxLen", "unicode/utf8.first", "unicode/utf8.acceptRanges"], apart := false, laid := [("unicode/utf8.acceptRanges", laid_unicode_utf8_acceptRanges), ("unicode/utf8.first", laid_unicode_utf8_first)], narrowed := true }
def DelimBackUptoSaid : Prop := delimBackUptoRow.holds Tryd.pinned (OpenSpec.upto delimBackSpec)

end Rows
end Go.Proofs.YtlbcpcdgpnppgaaDoor
