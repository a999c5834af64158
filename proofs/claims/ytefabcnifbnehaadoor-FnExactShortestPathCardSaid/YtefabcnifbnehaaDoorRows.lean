/-
  NARROWER THAN 'FOR EVERY INPUT', by the rows' own cells (each row's printed sentence says how): FnExactLongestLived: laid · FnExactWaysTo: laid · FnExactAreFormats: laid · FnExactLastReadable: laid · FnExactIsReadable: laid · FnExactAreCopies: laid · FnExactShortestPath: laid · FnExactSizeByFormat: laid · FnExactUnseen: laid · FnExactLostRecords: laid.
  DERIVED. THE GIVEN ROWS OF THIS SEAT. 10 by the template 'for every input the law returns true; each argument reads behind the call as it read before'; 0 by the template 'total and deterministic' (their statements: YtefabcnifbnehaaDoorTotals.lean).
  GIVEN WITH THE SEED: the statements are not yours to turn. If you find one false, say at which input.
  Laid BY PROGRAM, IN A SANDBOX (cutbox-rows.mjs): the forced cells as the released guide's own fill.sh prints them over the translation 2d667fdd9ccfa3e2… (all of the seat's roots in one cut). By AI agents, Wed Nov 11 2026. No macro, syntax, notation, axiom, sorry.
-/
import Derived.Test.YtefabcnifbnehaaDoorChecked
import GoSem.PinnedTables
import GoSem.Claim
import GoSem.ClaimJoined
import GoSem.ClaimMapViews
import Derived.JoinedTies
import Derived.KernelRfl
namespace Go.Proofs.YtefabcnifbnehaaDoor
/- THE CELL 'sum', in the pinned program and in every row, IS THE sha256 OF THE DUMP (.gsa) THAT YtefabcnifbnehaaDoorProg.lean LOADS. Nothing in Lean hashes anything: it is a label: what it is worth is what the hold of that sum in a sandbox is worth. -/
noncomputable def Tryd.pinned : Pinned := { name := "ytefabcnifbnehaadoor", sum := "2d667fdd9ccfa3e2002626e9e47f733038394e982328dd50aff6f1a08b8a2c89", checked := Tryd.checked }
namespace Rows
def none {H : Type} : Left H := { results := [], args := [] }

/- WHAT THE LISTED PACKAGE-LEVEL VARIABLES READ AS WHEN THE CALL BEGINS. Each datum BY PROGRAM (the guide's laid-datum.mjs) off the statement by which the dump's own 'gosem.cut.vars' lays the variable. In a bare row this is a premise. The card (YtefabcnifbnehaaDoorCards.lean) ties it to the program's text. -/
def laid_unicode_utf8_acceptRanges {H : Type} : DataW H := .agg [.agg [.lit (.int .u8 128), .lit (.int .u8 191)], .agg [.lit (.int .u8 160), .lit (.int .u8 191)], .agg [.lit (.int .u8 128), .lit (.int .u8 159)], .agg [.lit (.int .u8 144), .lit (.int .u8 191)], .agg [.lit (.int .u8 128), .lit (.int .u8 143)], .agg [.lit (.int .u8 0), .lit (.int .u8 0)], .agg [.lit (.int .u8 0), .lit (.int .u8 0)], .agg [.lit (.int .u8 0), .lit (.int .u8 0)], .agg [.lit (.int .u8 0), .lit (.int .u8 0)], .agg [.lit (.int .u8 0), .lit (.int .u8 0)], .agg [.lit (.int .u8 0), .lit (.int .u8 0)], .agg [.lit (.int .u8 0), .lit (.int .u8 0)], .agg [.lit (.int .u8 0), .lit (.int .u8 0)], .agg [.lit (.int .u8 0), .lit (.int .u8 0)], .agg [.lit (.int .u8 0), .lit (.int .u8 0)], .agg [.lit (.int .u8 0), .lit (.int .u8 0)]]
/-- One of Go's own tables, pinned by name: the form's constant. -/
def laid_unicode_utf8_first : DataW Unit := Go.Pinned.utf8First

/-- 'laws.FnExactLongestLived': WHATEVER THE INPUT: true; the input reads as it did. -/
def fnExactLongestLivedSpec : ChangeSpec := { name := "fnExactLongestLived", fn := fun _ => fun
  | [d1, d2, d3] => { results := [.lit (.bool true)], args := [d1, d2, d3] }
  | _ => none }
def fnExactLongestLivedRow : OpenClaim := { program := "ytefabcnifbnehaadoor", sum := "2d667fdd9ccfa3e2002626e9e47f733038394e982328dd50aff6f1a08b8a2c89", func := "loop.example/g01035/laws.FnExactLongestLived", spec := "fnExactLongestLived", inPlace := ["internal/bytealg.IndexByteString", "internal/bytealg.IndexString"], unfollowed := true, recurses := true, named := ["unicode/utf8.first", "unicode/utf8.acceptRanges", "internal/bytealg.MaxLen"], apart := false, laid := [("unicode/utf8.acceptRanges", laid_unicode_utf8_acceptRanges), ("unicode/utf8.first", laid_unicode_utf8_first)] }
def FnExactLongestLivedSaid : Prop := fnExactLongestLivedRow.holds Tryd.pinned (OpenSpec.ofChange fnExactLongestLivedSpec)

/-- ITS FALSE NEIGHBOUR: 'it returns false'. Refute it at one input. -/
def fnExactLongestLivedWrong : ChangeSpec := { name := "fnExactLongestLived", fn := fun _ => fun
  | [d1, d2, d3] => { results := [.lit (.bool false)], args := [d1, d2, d3] }
  | _ => none }
def FnExactLongestLivedWrongFalsely : Prop := fnExactLongestLivedRow.holds Tryd.pinned (OpenSpec.ofChange fnExactLongestLivedWrong)

/-- 'laws.FnExactWaysTo': WHATEVER THE INPUT: true; the input reads as it did. -/
def fnExactWaysToSpec : ChangeSpec := { name := "fnExactWaysTo", fn := fun _ => fun
  | [d1, d2, d3] => { results := [.lit (.bool true)], args := [d1, d2, d3] }
  | _ => none }
def fnExactWaysToRow : OpenClaim := { program := "ytefabcnifbnehaadoor", sum := "2d667fdd9ccfa3e2002626e9e47f733038394e982328dd50aff6f1a08b8a2c89", func := "loop.example/g01035/laws.FnExactWaysTo", spec := "fnExactWaysTo", inPlace := ["internal/bytealg.IndexByteString", "internal/bytealg.IndexString"], unfollowed := true, recurses := true, named := ["unicode/utf8.first", "unicode/utf8.acceptRanges", "internal/bytealg.MaxLen"], apart := false, laid := [("unicode/utf8.acceptRanges", laid_unicode_utf8_acceptRanges), ("unicode/utf8.first", laid_unicode_utf8_first)] }
def FnExactWaysToSaid : Prop := fnExactWaysToRow.holds Tryd.pinned (OpenSpec.ofChange fnExactWaysToSpec)

/-- ITS FALSE NEIGHBOUR: 'it returns false'. Refute it at one input. -/
def fnExactWaysToWrong : ChangeSpec := { name := "fnExactWaysTo", fn := fun _ => fun
  | [d1, d2, d3] => { results := [.lit (.bool false)], args := [d1, d2, d3] }
  | _ => none }
def FnExactWaysToWrongFalsely : Prop := fnExactWaysToRow.holds Tryd.pinned (OpenSpec.ofChange fnExactWaysToWrong)

/-- 'laws.FnExactAreFormats': WHATEVER THE INPUT: true; the input reads as it did. -/
def fnExactAreFormatsSpec : ChangeSpec := { name := "fnExactAreFormats", fn := fun _ => fun
  | [d] => { results := [.lit (.bool true)], args := [d] }
  | _ => none }
def fnExactAreFormatsRow : OpenClaim := { program := "ytefabcnifbnehaadoor", sum := "2d667fdd9ccfa3e2002626e9e47f733038394e982328dd50aff6f1a08b8a2c89", func := "loop.example/g01035/laws.FnExactAreFormats", spec := "fnExactAreFormats", inPlace := ["internal/bytealg.IndexByteString", "internal/bytealg.IndexString"], unfollowed := true, recurses := true, named := ["unicode/utf8.first", "unicode/utf8.acceptRanges", "internal/bytealg.MaxLen"], apart := false, laid := [("unicode/utf8.acceptRanges", laid_unicode_utf8_acceptRanges), ("unicode/utf8.first", laid_unicode_utf8_first)] }
def FnExactAreFormatsSaid : Prop := fnExactAreFormatsRow.holds Tryd.pinned (OpenSpec.ofChange fnExactAreFormatsSpec)

/-- ITS FALSE NEIGHBOUR: 'it returns false'. Refute it at one input. -/
def fnExactAreFormatsWrong : ChangeSpec := { name := "fnExactAreFormats", fn := fun _ => fun
  | [d] => { results := [.lit (.bool false)], args := [d] }
  | _ => none }
def FnExactAreFormatsWrongFalsely : Prop := fnExactAreFormatsRow.holds Tryd.pinned (OpenSpec.ofChange fnExactAreFormatsWrong)

/-- 'laws.FnExactLastReadable': WHATEVER THE INPUT: true; the input reads as it did. -/
def fnExactLastReadableSpec : ChangeSpec := { name := "fnExactLastReadable", fn := fun _ => fun
  | [d1, d2] => { results := [.lit (.bool true)], args := [d1, d2] }
  | _ => none }
def fnExactLastReadableRow : OpenClaim := { program := "ytefabcnifbnehaadoor", sum := "2d667fdd9ccfa3e2002626e9e47f733038394e982328dd50aff6f1a08b8a2c89", func := "loop.example/g01035/laws.FnExactLastReadable", spec := "fnExactLastReadable", inPlace := ["internal/bytealg.IndexByteString", "internal/bytealg.IndexString"], unfollowed := true, recurses := true, named := ["unicode/utf8.first", "unicode/utf8.acceptRanges", "internal/bytealg.MaxLen"], apart := false, laid := [("unicode/utf8.acceptRanges", laid_unicode_utf8_acceptRanges), ("unicode/utf8.first", laid_unicode_utf8_first)] }
def FnExactLastReadableSaid : Prop := fnExactLastReadableRow.holds Tryd.pinned (OpenSpec.ofChange fnExactLastReadableSpec)

/-- ITS FALSE NEIGHBOUR: 'it returns false'. Refute it at one input. -/
def fnExactLastReadableWrong : ChangeSpec := { name := "fnExactLastReadable", fn := fun _ => fun
  | [d1, d2] => { results := [.lit (.bool false)], args := [d1, d2] }
  | _ => none }
def FnExactLastReadableWrongFalsely : Prop := fnExactLastReadableRow.holds Tryd.pinned (OpenSpec.ofChange fnExactLastReadableWrong)

/-- 'laws.FnExactIsReadable': WHATEVER THE INPUT: true; the input reads as it did. -/
def fnExactIsReadableSpec : ChangeSpec := { name := "fnExactIsReadable", fn := fun _ => fun
  | [d1, d2, d3] => { results := [.lit (.bool true)], args := [d1, d2, d3] }
  | _ => none }
def fnExactIsReadableRow : OpenClaim := { program := "ytefabcnifbnehaadoor", sum := "2d667fdd9ccfa3e2002626e9e47f733038394e982328dd50aff6f1a08b8a2c89", func := "loop.example/g01035/laws.FnExactIsReadable", spec := "fnExactIsReadable", inPlace := ["internal/bytealg.IndexByteString", "internal/bytealg.IndexString"], unfollowed := true, recurses := true, named := ["unicode/utf8.first", "unicode/utf8.acceptRanges", "internal/bytealg.MaxLen"], apart := false, laid := [("unicode/utf8.acceptRanges", laid_unicode_utf8_acceptRanges), ("unicode/utf8.first", laid_unicode_utf8_first)] }
def FnExactIsReadableSaid : Prop := fnExactIsReadableRow.holds Tryd.pinned (OpenSpec.ofChange fnExactIsReadableSpec)

/-- ITS FALSE NEIGHBOUR: 'it returns false'. Refute it at one input. -/
def fnExactIsReadableWrong : ChangeSpec := { name := "fnExactIsReadable", fn := fun _ => fun
  | [d1, d2, d3] => { results := [.lit (.bool false)], args := [d1, d2, d3] }
  | _ => none }
def FnExactIsReadableWrongFalsely : Prop := fnExactIsReadableRow.holds Tryd.pinned (OpenSpec.ofChange fnExactIsReadableWrong)

/-- 'laws.FnExactAreCopies': WHATEVER THE INPUT: true; the input reads as it did. -/
def fnExactAreCopiesSpec : ChangeSpec := { name := "fnExactAreCopies", fn := fun _ => fun
  | [d1, d2] => { results := [.lit (.bool true)], args := [d1, d2] }
  | _ => none }
def fnExactAreCopiesRow : OpenClaim := { program := "ytefabcnifbnehaadoor", sum := "2d667fdd9ccfa3e2002626e9e47f733038394e982328dd50aff6f1a08b8a2c89", func := "loop.example/g01035/laws.FnExactAreCopies", spec := "fnExactAreCopies", inPlace := ["internal/bytealg.IndexByteString", "internal/bytealg.IndexString"], unfollowed := true, recurses := true, named := ["unicode/utf8.first", "unicode/utf8.acceptRanges", "internal/bytealg.MaxLen"], apart := false, laid := [("unicode/utf8.acceptRanges", laid_unicode_utf8_acceptRanges), ("unicode/utf8.first", laid_unicode_utf8_first)] }
def FnExactAreCopiesSaid : Prop := fnExactAreCopiesRow.holds Tryd.pinned (OpenSpec.ofChange fnExactAreCopiesSpec)

/-- ITS FALSE NEIGHBOUR: 'it returns false'. Refute it at one input. -/
def fnExactAreCopiesWrong : ChangeSpec := { name := "fnExactAreCopies", fn := fun _ => fun
  | [d1, d2] => { results := [.lit (.bool false)], args := [d1, d2] }
  | _ => none }
def FnExactAreCopiesWrongFalsely : Prop := fnExactAreCopiesRow.holds Tryd.pinned (OpenSpec.ofChange fnExactAreCopiesWrong)

/-- 'laws.FnExactShortestPath': WHATEVER THE INPUT: true; the input reads as it did. -/
def fnExactShortestPathSpec : ChangeSpec := { name := "fnExactShortestPath", fn := fun _ => fun
  | [d1, d2, d3, d4] => { results := [.lit (.bool true)], args := [d1, d2, d3, d4] }
  | _ => none }
def fnExactShortestPathRow : OpenClaim := { program := "ytefabcnifbnehaadoor", sum := "2d667fdd9ccfa3e2002626e9e47f733038394e982328dd50aff6f1a08b8a2c89", func := "loop.example/g01035/laws.FnExactShortestPath", spec := "fnExactShortestPath", inPlace := ["internal/bytealg.IndexByteString", "internal/bytealg.IndexString"], unfollowed := true, recurses := true, named := ["unicode/utf8.first", "unicode/utf8.acceptRanges", "internal/bytealg.MaxLen"], apart := false, laid := [("unicode/utf8.acceptRanges", laid_unicode_utf8_acceptRanges), ("unicode/utf8.first", laid_unicode_utf8_first)] }
def FnExactShortestPathSaid : Prop := fnExactShortestPathRow.holds Tryd.pinned (OpenSpec.ofChange fnExactShortestPathSpec)

/-- ITS FALSE NEIGHBOUR: 'it returns false'. Refute it at one input. -/
def fnExactShortestPathWrong : ChangeSpec := { name := "fnExactShortestPath", fn := fun _ => fun
  | [d1, d2, d3, d4] => { results := [.lit (.bool false)], args := [d1, d2, d3, d4] }
  | _ => none }
def FnExactShortestPathWrongFalsely : Prop := fnExactShortestPathRow.holds Tryd.pinned (OpenSpec.ofChange fnExactShortestPathWrong)

/-- 'laws.FnExactSizeByFormat': WHATEVER THE INPUT: true; the input reads as it did. -/
def fnExactSizeByFormatSpec : ChangeSpec := { name := "fnExactSizeByFormat", fn := fun _ => fun
  | [d1, d2] => { results := [.lit (.bool true)], args := [d1, d2] }
  | _ => none }
def fnExactSizeByFormatRow : OpenClaim := { program := "ytefabcnifbnehaadoor", sum := "2d667fdd9ccfa3e2002626e9e47f733038394e982328dd50aff6f1a08b8a2c89", func := "loop.example/g01035/laws.FnExactSizeByFormat", spec := "fnExactSizeByFormat", inPlace := ["internal/bytealg.IndexByteString", "internal/bytealg.IndexString"], unfollowed := true, recurses := true, named := ["unicode/utf8.first", "unicode/utf8.acceptRanges", "internal/bytealg.MaxLen"], apart := false, laid := [("unicode/utf8.acceptRanges", laid_unicode_utf8_acceptRanges), ("unicode/utf8.first", laid_unicode_utf8_first)] }
def FnExactSizeByFormatSaid : Prop := fnExactSizeByFormatRow.holds Tryd.pinned (OpenSpec.ofChange fnExactSizeByFormatSpec)

/-- ITS FALSE NEIGHBOUR: 'it returns false'. Refute it at one input. -/
def fnExactSizeByFormatWrong : ChangeSpec := { name := "fnExactSizeByFormat", fn := fun _ => fun
  | [d1, d2] => { results := [.lit (.bool false)], args := [d1, d2] }
  | _ => none }
def FnExactSizeByFormatWrongFalsely : Prop := fnExactSizeByFormatRow.holds Tryd.pinned (OpenSpec.ofChange fnExactSizeByFormatWrong)

/-- 'laws.FnExactUnseen': WHATEVER THE INPUT: true; the input reads as it did. -/
def fnExactUnseenSpec : ChangeSpec := { name := "fnExactUnseen", fn := fun _ => fun
  | [d1, d2, d3, d4] => { results := [.lit (.bool true)], args := [d1, d2, d3, d4] }
  | _ => none }
def fnExactUnseenRow : OpenClaim := { program := "ytefabcnifbnehaadoor", sum := "2d667fdd9ccfa3e2002626e9e47f733038394e982328dd50aff6f1a08b8a2c89", func := "loop.example/g01035/laws.FnExactUnseen", spec := "fnExactUnseen", inPlace := ["internal/bytealg.IndexByteString", "internal/bytealg.IndexString"], unfollowed := true, recurses := true, named := ["unicode/utf8.first", "unicode/utf8.acceptRanges", "internal/bytealg.MaxLen"], apart := false, laid := [("unicode/utf8.acceptRanges", laid_unicode_utf8_acceptRanges), ("unicode/utf8.first", laid_unicode_utf8_first)] }
def FnExactUnseenSaid : Prop := fnExactUnseenRow.holds Tryd.pinned (OpenSpec.ofChange fnExactUnseenSpec)

/-- ITS FALSE NEIGHBOUR: 'it returns false'. Refute it at one input. -/
def fnExactUnseenWrong : ChangeSpec := { name := "fnExactUnseen", fn := fun _ => fun
  | [d1, d2, d3, d4] => { results := [.lit (.bool false)], args := [d1, d2, d3, d4] }
  | _ => none }
def FnExactUnseenWrongFalsely : Prop := fnExactUnseenRow.holds Tryd.pinned (OpenSpec.ofChange fnExactUnseenWrong)

/-- 'laws.FnExactLostRecords': WHATEVER THE INPUT: true; the input reads as it did. -/
def fnExactLostRecordsSpec : ChangeSpec := { name := "fnExactLostRecords", fn := fun _ => fun
  | [d1, d2, d3] => { results := [.lit (.bool true)], args := [d1, d2, d3] }
  | _ => none }
def fnExactLostRecordsRow : OpenClaim := { program := "ytefabcnifbnehaadoor", sum := "2d667fdd9ccfa3e2002626e9e47f733038394e982328dd50aff6f1a08b8a2c89", func := "loop.example/g01035/laws.FnExactLostRecords", spec := "fnExactLostRecords", inPlace := ["internal/bytealg.IndexByteString", "internal/bytealg.IndexString"], unfollowed := true, recurses := true, named := ["unicode/utf8.first", "unicode/utf8.acceptRanges", "internal/bytealg.MaxLen"], apart := false, laid := [("unicode/utf8.acceptRanges", laid_unicode_utf8_acceptRanges), ("unicode/utf8.first", laid_unicode_utf8_first)] }
def FnExactLostRecordsSaid : Prop := fnExactLostRecordsRow.holds Tryd.pinned (OpenSpec.ofChange fnExactLostRecordsSpec)

/-- ITS FALSE NEIGHBOUR: 'it returns false'. Refute it at one input. -/
def fnExactLostRecordsWrong : ChangeSpec := { name := "fnExactLostRecords", fn := fun _ => fun
  | [d1, d2, d3] => { results := [.lit (.bool false)], args := [d1, d2, d3] }
  | _ => none }
def FnExactLostRecordsWrongFalsely : Prop := fnExactLostRecordsRow.holds Tryd.pinned (OpenSpec.ofChange fnExactLostRecordsWrong)

/- THE SECOND FORM. 'bulk': how many values and letters a reading holds, each counted each time it is reached (what is shared counts as often as it is met; a slice's spare places count too). A statement '..UptoSaid' is the law's where the arguments, and the package variables that the reading takes, are together of bulk at most 1048576: NARROWER than '..Said'. Prove '..Said' where nothing that the law and all that it calls make is longer than what came in: it says more and counts as full. Else prove '..UptoSaid'. A law counts once. -/
mutual
def uptoBulk {H : Type} : DataW H → Nat
  | .lit (.string bytes) => bytes.length + 1
  | .lit _ => 1
  | .nil => 1
  | .ptr d => uptoBulk d + 1
  | .slice elems spare => uptoBulkAll elems + uptoBulkAll spare + 1
  | .agg parts => uptoBulkAll parts + 1
  | .iface _ d => uptoBulk d + 1
  | .map entries => uptoBulkEntries entries + 1
  | .held _ => 1
def uptoBulkAll {H : Type} : List (DataW H) → Nat
  | [] => 0
  | d :: r => uptoBulk d + uptoBulkAll r
def uptoBulkEntries {H : Type} : List (Lit × DataW H) → Nat
  | [] => 0
  | x :: r => uptoBulkEntry x + uptoBulkEntries r
def uptoBulkEntry {H : Type} : Lit × DataW H → Nat
  | (.string bytes, d) => bytes.length + uptoBulk d + 1
  | (_, d) => uptoBulk d + 1
 end
def uptoSmall : (H : Type) → List (DataW H) → Bool := fun _ ds => decide (uptoBulkAll ds ≤ 1048576)
def OpenSpec.upto (s : _root_.Go.ChangeSpec) : _root_.Go.OpenSpec := { _root_.Go.OpenSpec.ofChange s with cond := some uptoSmall }

/-- 'laws.FnExactLongestLived', WHERE WHAT IT READS IS OF BULK AT MOST 1048576: true; the input reads as it did. -/
def fnExactLongestLivedUptoRow : OpenClaim := { program := "ytefabcnifbnehaadoor", sum := "2d667fdd9ccfa3e2002626e9e47f733038394e982328dd50aff6f1a08b8a2c89", func := "loop.example/g01035/laws.FnExactLongestLived", spec := "fnExactLongestLived", inPlace := ["internal/bytealg.IndexByteString", "internal/bytealg.IndexString"], unfollowed := true, recurses := true, named := ["unicode/utf8.first", "unicode/utf8.acceptRanges", "internal/bytealg.MaxLen"], apart := false, laid := [("unicode/utf8.acceptRanges", laid_unicode_utf8_acceptRanges), ("unicode/utf8.first", laid_unicode_utf8_first)], narrowed := true }
def FnExactLongestLivedUptoSaid : Prop := fnExactLongestLivedUptoRow.holds Tryd.pinned (OpenSpec.upto fnExactLongestLivedSpec)

/-- 'laws.FnExactWaysTo', WHERE WHAT IT READS IS OF BULK AT MOST 1048576: true; the input reads as it did. -/
def fnExactWaysToUptoRow : OpenClaim := { program := "ytefabcnifbnehaadoor", sum := "2d667fdd9ccfa3e2002626e9e47f733038394e982328dd50aff6f1a08b8a2c89", func := "loop.example/g01035/laws.FnExactWaysTo", spec := "fnExactWaysTo", inPlace := ["internal/bytealg.IndexByteString", "internal/bytealg.IndexString"], unfollowed := true, recurses := true, named := ["unicode/utf8.first", "unicode/utf8.acceptRanges", "internal/bytealg.MaxLen"], apart := false, laid := [("unicode/utf8.acceptRanges", laid_unicode_utf8_acceptRanges), ("unicode/utf8.first", laid_unicode_utf8_first)], narrowed := true }
def FnExactWaysToUptoSaid : Prop := fnExactWaysToUptoRow.holds Tryd.pinned (OpenSpec.upto fnExactWaysToSpec)

/-- 'laws.FnExactAreFormats', WHERE WHAT IT READS IS OF BULK AT MOST 1048576: true; the input reads as it did. -/
def fnExactAreFormatsUptoRow : OpenClaim := { program := "ytefabcnifbnehaadoor", sum := "2d667fdd9ccfa3e2002626e9e47f733038394e982328dd50aff6f1a08b8a2c89", func := "loop.example/g01035/laws.FnExactAreFormats", spec := "fnExactAreFormats", inPlace := ["internal/bytealg.IndexByteString", "internal/bytealg.IndexString"], unfollowed := true, recurses := true, named := ["unicode/utf8.first", "unicode/utf8.acceptRanges", "internal/bytealg.MaxLen"], apart := false, laid := [("unicode/utf8.acceptRanges", laid_unicode_utf8_acceptRanges), ("unicode/utf8.first", laid_unicode_utf8_first)], narrowed := true }
def FnExactAreFormatsUptoSaid : Prop := fnExactAreFormatsUptoRow.holds Tryd.pinned (OpenSpec.upto fnExactAreFormatsSpec)

/-- 'laws.FnExactLastReadable', WHERE WHAT IT READS IS OF BULK AT MOST 1048576: true; the input reads as it did. -/
def fnExactLastReadableUptoRow : OpenClaim := { program := "ytefabcnifbnehaadoor", sum := "2d667fdd9ccfa3e2002626e9e47f733038394e982328dd50aff6f1a08b8a2c89", func := "loop.example/g01035/laws.FnExactLastReadable", spec := "fnExactLastReadable", inPlace := ["internal/bytealg.IndexByteString", "internal/bytealg.IndexString"], unfollowed := true, recurses := true, named := ["unicode/utf8.first", "unicode/utf8.acceptRanges", "internal/bytealg.MaxLen"], apart := false, laid := [("unicode/utf8.acceptRanges", laid_unicode_utf8_acceptRanges), ("unicode/utf8.first", laid_unicode_utf8_first)], narrowed := true }
def FnExactLastReadableUptoSaid : Prop := fnExactLastReadableUptoRow.holds Tryd.pinned (OpenSpec.upto fnExactLastReadableSpec)

/-- 'laws.FnExactIsReadable', WHERE WHAT IT READS IS OF BULK AT MOST 1048576: true; the input reads as it did. -/
def fnExactIsReadableUptoRow : OpenClaim := { program := "ytefabcnifbnehaadoor", sum := "2d667fdd9ccfa3e2002626e9e47f733038394e982328dd50aff6f1a08b8a2c89", func := "loop.example/g01035/laws.FnExactIsReadable", spec := "fnExactIsReadable", inPlace := ["internal/bytealg.IndexByteString", "internal/bytealg.IndexString"], unfollowed := true, recurses := true, named := ["unicode/utf8.first", "unicode/utf8.acceptRanges", "internal/bytealg.MaxLen"], apart := false, laid := [("unicode/utf8.acceptRanges", laid_unicode_utf8_acceptRanges), ("unicode/utf8.first", laid_unicode_utf8_first)], narrowed := true }
def FnExactIsReadableUptoSaid : Prop := fnExactIsReadableUptoRow.holds Tryd.pinned (OpenSpec.upto fnExactIsReadableSpec)

/-- 'laws.FnExactAreCopies', WHERE WHAT IT READS IS OF BULK AT MOST 1048576: true; the input reads as it did. -/
def fnExactAreCopiesUptoRow : OpenClaim := { program := "ytefabcnifbnehaadoor", sum := "2d667fdd9ccfa3e2002626e9e47f733038394e982328dd50aff6f1a08b8a2c89", func := "loop.example/g01035/laws.FnExactAreCopies", spec := "fnExactAreCopies", inPlace := ["internal/bytealg.IndexByteString", "internal/bytealg.IndexString"], unfollowed := true, recurses := true, named := ["unicode/utf8.first", "unicode/utf8.acceptRanges", "internal/bytealg.MaxLen"], apart := false, laid := [("unicode/utf8.acceptRanges", laid_unicode_utf8_acceptRanges), ("unicode/utf8.first", laid_unicode_utf8_first)], narrowed := true }
def FnExactAreCopiesUptoSaid : Prop := fnExactAreCopiesUptoRow.holds Tryd.pinned (OpenSpec.upto fnExactAreCopiesSpec)

/-- 'laws.FnExactShortestPath', WHERE WHAT IT READS IS OF BULK AT MOST 1048576: true; the input reads as it did. -/
def fnExactShortestPathUptoRow : OpenClaim := { program := "ytefabcnifbnehaadoor", sum := "2d667fdd9ccfa3e2002626e9e47f733038394e982328dd50aff6f1a08b8a2c89", func := "loop.example/g01035/laws.FnExactShortestPath", spec := "fnExactShortestPath", inPlace := ["internal/bytealg.IndexByteString", "internal/bytealg.IndexString"], unfollowed := true, recurses := true, named := ["unicode/utf8.first", "unicode/utf8.acceptRanges", "internal/bytealg.MaxLen"], apart := false, laid := [("unicode/utf8.acceptRanges", laid_unicode_utf8_acceptRanges), ("unicode/utf8.first", laid_unicode_utf8_first)], narrowed := true }
def FnExactShortestPathUptoSaid : Prop := fnExactShortestPathUptoRow.holds Tryd.pinned (OpenSpec.upto fnExactShortestPathSpec)

/-- 'laws.FnExactSizeByFormat', WHERE WHAT IT READS IS OF BULK AT MOST 1048576: true; the input reads as it did. -/
def fnExactSizeByFormatUptoRow : OpenClaim := { program := "ytefabcnifbnehaadoor", sum := "2d667fdd9ccfa3e2002626e9e47f733038394e982328dd50aff6f1a08b8a2c89", func := "loop.example/g01035/laws.FnExactSizeByFormat", spec := "fnExactSizeByFormat", inPlace := ["internal/bytealg.IndexByteString", "internal/bytealg.IndexString"], unfollowed := true, recurses := true, named := ["unicode/utf8.first", "unicode/utf8.acceptRanges", "internal/bytealg.MaxLen"], apart := false, laid := [("unicode/utf8.acceptRanges", laid_unicode_utf8_acceptRanges), ("unicode/utf8.first", laid_unicode_utf8_first)], narrowed := true }
def FnExactSizeByFormatUptoSaid : Prop := fnExactSizeByFormatUptoRow.holds Tryd.pinned (OpenSpec.upto fnExactSizeByFormatSpec)

/-- 'laws.FnExactUnseen', WHERE WHAT IT READS IS OF BULK AT MOST 1048576: true; the input reads as it did. -/
def fnExactUnseenUptoRow : OpenClaim := { program := "ytefabcnifbnehaadoor", sum := "2d667fdd9ccfa3e2002626e9e47f733038394e982328dd50aff6f1a08b8a2c89", func := "loop.example/g01035/laws.FnExactUnseen", spec := "fnExactUnseen", inPlace := ["internal/bytealg.IndexByteString", "internal/bytealg.IndexString"], unfollowed := true, recurses := true, named := ["unicode/utf8.first", "unicode/utf8.acceptRanges", "internal/bytealg.MaxLen"], apart := false, laid := [("unicode/utf8.acceptRanges", laid_unicode_utf8_acceptRanges), ("unicode/utf8.first", laid_unicode_utf8_first)], narrowed := true }
def FnExactUnseenUptoSaid : Prop := fnExactUnseenUptoRow.holds Tryd.pinned (OpenSpec.upto fnExactUnseenSpec)

/-- 'laws.FnExactLostRecords', WHERE WHAT IT READS IS OF BULK AT MOST 1048576: true; the input reads as it did. -/
def fnExactLostRecordsUptoRow : OpenClaim := { program := "ytefabcnifbnehaadoor", sum := "2d667fdd9ccfa3e2002626e9e47f733038394e982328dd50aff6f1a08b8a2c89", func := "loop.example/g01035/laws.FnExactLostRecords", spec := "fnExactLostRecords", inPlace := ["internal/bytealg.IndexByteString", "internal/bytealg.IndexString"], unfollowed := true, recurses := true, named := ["unicode/utf8.first", "unicode/utf8.acceptRanges", "internal/bytealg.MaxLen"], apart := false, laid := [("unicode/utf8.acceptRanges", laid_unicode_utf8_acceptRanges), ("unicode/utf8.first", laid_unicode_utf8_first)], narrowed := true }
def FnExactLostRecordsUptoSaid : Prop := fnExactLostRecordsUptoRow.holds Tryd.pinned (OpenSpec.upto fnExactLostRecordsSpec)

end Rows
end Go.Proofs.YtefabcnifbnehaaDoor
