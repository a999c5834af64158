/-
  NARROWER THAN 'FOR EVERY INPUT', by the rows' own cells (each row's printed sentence says how): FnExactIsClerk: laid · FnExactAreClerks: laid · FnExactRightsOn: laid · FnExactMayDo: laid · FnExactPairFor: laid · FnExactStandFor: laid · FnExactGiveRight: laid · FnExactTakeRight: laid · FnExactWhoMay: laid · FnExactDaysWithout: laid.
  DERIVED. THE GIVEN ROWS OF THIS SEAT. 10 by the template 'for every input the law returns true; each argument reads behind the call as it read before'; 0 by the template 'total and deterministic' (their statements: YtlablieekijgoaaDoorTotals.lean).
  GIVEN WITH THE SEED: the statements are not yours to turn. If you find one false, say at which input.
  Laid BY PROGRAM, IN A SANDBOX (cutbox-rows.mjs): the forced cells as the released guide's own fill.sh prints them over the translation 8a7551db4b88ff6c… (all of the seat's roots in one cut). By AI agents, Wed Nov 11 2026. No macro, syntax, notation, axiom, sorry.
-/
import Derived.Test.YtlablieekijgoaaDoorChecked
import GoSem.PinnedTables
import GoSem.Claim
import GoSem.ClaimJoined
import GoSem.ClaimMapViews
import Derived.JoinedTies
import Derived.KernelRfl
namespace Go.Proofs.YtlablieekijgoaaDoor
/- THE CELL 'sum', in the pinned program and in every row, IS THE sha256 OF THE DUMP (.gsa) THAT YtlablieekijgoaaDoorProg.lean LOADS. Nothing in Lean hashes anything: it is a label: what it is worth is what the hold of that sum in a sandbox is worth. -/
noncomputable def Tryd.pinned : Pinned := { name := "ytlablieekijgoaadoor", sum := "8a7551db4b88ff6c7853456332150ecfc0964f7804eaec0e4f32a13040487d7f", checked := Tryd.checked }
namespace Rows
def none {H : Type} : Left H := { results := [], args := [] }

/- WHAT THE LISTED PACKAGE-LEVEL VARIABLES READ AS WHEN THE CALL BEGINS. Each datum BY PROGRAM (the guide's laid-datum.mjs) off the statement by which the dump's own 'gosem.cut.vars' lays the variable. In a bare row this is a premise. The card (YtlablieekijgoaaDoorCards.lean) ties it to the program's text. -/
def laid_unicode_utf8_acceptRanges {H : Type} : DataW H := .agg [.agg [.lit (.int .u8 128), .lit (.int .u8 191)], .agg [.lit (.int .u8 160), .lit (.int .u8 191)], .agg [.lit (.int .u8 128), .lit (.int .u8 159)], .agg [.lit (.int .u8 144), .lit (.int .u8 191)], .agg [.lit (.int .u8 128), .lit (.int .u8 143)], .agg [.lit (.int .u8 0), .lit (.int .u8 0)], .agg [.lit (.int .u8 0), .lit (.int .u8 0)], .agg [.lit (.int .u8 0), .lit (.int .u8 0)], .agg [.lit (.int .u8 0), .lit (.int .u8 0)], .agg [.lit (.int .u8 0), .lit (.int .u8 0)], .agg [.lit (.int .u8 0), .lit (.int .u8 0)], .agg [.lit (.int .u8 0), .lit (.int .u8 0)], .agg [.lit (.int .u8 0), .lit (.int .u8 0)], .agg [.lit (.int .u8 0), .lit (.int .u8 0)], .agg [.lit (.int .u8 0), .lit (.int .u8 0)], .agg [.lit (.int .u8 0), .lit (.int .u8 0)]]
/-- One of Go's own tables, pinned by name: the form's constant. -/
def laid_unicode_utf8_first : DataW Unit := Go.Pinned.utf8First

/-- 'laws.FnExactIsClerk': WHATEVER THE INPUT: true; the input reads as it did. -/
def fnExactIsClerkSpec : ChangeSpec := { name := "fnExactIsClerk", fn := fun _ => fun
  | [d] => { results := [.lit (.bool true)], args := [d] }
  | _ => none }
def fnExactIsClerkRow : OpenClaim := { program := "ytlablieekijgoaadoor", sum := "8a7551db4b88ff6c7853456332150ecfc0964f7804eaec0e4f32a13040487d7f", func := "loop.example/g01035/laws.FnExactIsClerk", spec := "fnExactIsClerk", inPlace := ["internal/bytealg.IndexByteString", "internal/bytealg.IndexString"], named := ["unicode/utf8.first", "unicode/utf8.acceptRanges", "internal/bytealg.MaxLen"], apart := false, laid := [("unicode/utf8.acceptRanges", laid_unicode_utf8_acceptRanges), ("unicode/utf8.first", laid_unicode_utf8_first)] }
def FnExactIsClerkSaid : Prop := fnExactIsClerkRow.holds Tryd.pinned (OpenSpec.ofChange fnExactIsClerkSpec)

/-- ITS FALSE NEIGHBOUR: 'it returns false'. Refute it at one input. -/
def fnExactIsClerkWrong : ChangeSpec := { name := "fnExactIsClerk", fn := fun _ => fun
  | [d] => { results := [.lit (.bool false)], args := [d] }
  | _ => none }
def FnExactIsClerkWrongFalsely : Prop := fnExactIsClerkRow.holds Tryd.pinned (OpenSpec.ofChange fnExactIsClerkWrong)

/-- 'laws.FnExactAreClerks': WHATEVER THE INPUT: true; the input reads as it did. -/
def fnExactAreClerksSpec : ChangeSpec := { name := "fnExactAreClerks", fn := fun _ => fun
  | [d] => { results := [.lit (.bool true)], args := [d] }
  | _ => none }
def fnExactAreClerksRow : OpenClaim := { program := "ytlablieekijgoaadoor", sum := "8a7551db4b88ff6c7853456332150ecfc0964f7804eaec0e4f32a13040487d7f", func := "loop.example/g01035/laws.FnExactAreClerks", spec := "fnExactAreClerks", inPlace := ["internal/bytealg.IndexByteString", "internal/bytealg.IndexString"], unfollowed := true, recurses := true, named := ["unicode/utf8.first", "unicode/utf8.acceptRanges", "internal/bytealg.MaxLen"], apart := false, laid := [("unicode/utf8.acceptRanges", laid_unicode_utf8_acceptRanges), ("unicode/utf8.first", laid_unicode_utf8_first)] }
def FnExactAreClerksSaid : Prop := fnExactAreClerksRow.holds Tryd.pinned (OpenSpec.ofChange fnExactAreClerksSpec)

/-- ITS FALSE NEIGHBOUR: 'it returns false'. Refute it at one input. -/
def fnExactAreClerksWrong : ChangeSpec := { name := "fnExactAreClerks", fn := fun _ => fun
  | [d] => { results := [.lit (.bool false)], args := [d] }
  | _ => none }
def FnExactAreClerksWrongFalsely : Prop := fnExactAreClerksRow.holds Tryd.pinned (OpenSpec.ofChange fnExactAreClerksWrong)

/-- 'laws.FnExactRightsOn': WHATEVER THE INPUT: true; the input reads as it did. -/
def fnExactRightsOnSpec : ChangeSpec := { name := "fnExactRightsOn", fn := fun _ => fun
  | [d1, d2, d3] => { results := [.lit (.bool true)], args := [d1, d2, d3] }
  | _ => none }
def fnExactRightsOnRow : OpenClaim := { program := "ytlablieekijgoaadoor", sum := "8a7551db4b88ff6c7853456332150ecfc0964f7804eaec0e4f32a13040487d7f", func := "loop.example/g01035/laws.FnExactRightsOn", spec := "fnExactRightsOn", inPlace := ["internal/bytealg.IndexByteString", "internal/bytealg.IndexString"], unfollowed := true, recurses := true, named := ["unicode/utf8.first", "unicode/utf8.acceptRanges", "internal/bytealg.MaxLen"], apart := false, laid := [("unicode/utf8.acceptRanges", laid_unicode_utf8_acceptRanges), ("unicode/utf8.first", laid_unicode_utf8_first)] }
def FnExactRightsOnSaid : Prop := fnExactRightsOnRow.holds Tryd.pinned (OpenSpec.ofChange fnExactRightsOnSpec)

/-- ITS FALSE NEIGHBOUR: 'it returns false'. Refute it at one input. -/
def fnExactRightsOnWrong : ChangeSpec := { name := "fnExactRightsOn", fn := fun _ => fun
  | [d1, d2, d3] => { results := [.lit (.bool false)], args := [d1, d2, d3] }
  | _ => none }
def FnExactRightsOnWrongFalsely : Prop := fnExactRightsOnRow.holds Tryd.pinned (OpenSpec.ofChange fnExactRightsOnWrong)

/-- 'laws.FnExactMayDo': WHATEVER THE INPUT: true; the input reads as it did. -/
def fnExactMayDoSpec : ChangeSpec := { name := "fnExactMayDo", fn := fun _ => fun
  | [d1, d2, d3, d4] => { results := [.lit (.bool true)], args := [d1, d2, d3, d4] }
  | _ => none }
def fnExactMayDoRow : OpenClaim := { program := "ytlablieekijgoaadoor", sum := "8a7551db4b88ff6c7853456332150ecfc0964f7804eaec0e4f32a13040487d7f", func := "loop.example/g01035/laws.FnExactMayDo", spec := "fnExactMayDo", inPlace := ["internal/bytealg.IndexByteString", "internal/bytealg.IndexString"], unfollowed := true, recurses := true, named := ["unicode/utf8.first", "unicode/utf8.acceptRanges", "internal/bytealg.MaxLen"], apart := false, laid := [("unicode/utf8.acceptRanges", laid_unicode_utf8_acceptRanges), ("unicode/utf8.first", laid_unicode_utf8_first)] }
def FnExactMayDoSaid : Prop := fnExactMayDoRow.holds Tryd.pinned (OpenSpec.ofChange fnExactMayDoSpec)

/-- ITS FALSE NEIGHBOUR: 'it returns false'. Refute it at one input. -/
def fnExactMayDoWrong : ChangeSpec := { name := "fnExactMayDo", fn := fun _ => fun
  | [d1, d2, d3, d4] => { results := [.lit (.bool false)], args := [d1, d2, d3, d4] }
  | _ => none }
def FnExactMayDoWrongFalsely : Prop := fnExactMayDoRow.holds Tryd.pinned (OpenSpec.ofChange fnExactMayDoWrong)

/-- 'laws.FnExactPairFor': WHATEVER THE INPUT: true; the input reads as it did. -/
def fnExactPairForSpec : ChangeSpec := { name := "fnExactPairFor", fn := fun _ => fun
  | [d1, d2] => { results := [.lit (.bool true)], args := [d1, d2] }
  | _ => none }
def fnExactPairForRow : OpenClaim := { program := "ytlablieekijgoaadoor", sum := "8a7551db4b88ff6c7853456332150ecfc0964f7804eaec0e4f32a13040487d7f", func := "loop.example/g01035/laws.FnExactPairFor", spec := "fnExactPairFor", inPlace := ["internal/bytealg.IndexByteString", "internal/bytealg.IndexString"], unfollowed := true, recurses := true, named := ["unicode/utf8.first", "unicode/utf8.acceptRanges", "internal/bytealg.MaxLen"], apart := false, laid := [("unicode/utf8.acceptRanges", laid_unicode_utf8_acceptRanges), ("unicode/utf8.first", laid_unicode_utf8_first)] }
def FnExactPairForSaid : Prop := fnExactPairForRow.holds Tryd.pinned (OpenSpec.ofChange fnExactPairForSpec)

/-- ITS FALSE NEIGHBOUR: 'it returns false'. Refute it at one input. -/
def fnExactPairForWrong : ChangeSpec := { name := "fnExactPairFor", fn := fun _ => fun
  | [d1, d2] => { results := [.lit (.bool false)], args := [d1, d2] }
  | _ => none }
def FnExactPairForWrongFalsely : Prop := fnExactPairForRow.holds Tryd.pinned (OpenSpec.ofChange fnExactPairForWrong)

/-- 'laws.FnExactStandFor': WHATEVER THE INPUT: true; the input reads as it did. -/
def fnExactStandForSpec : ChangeSpec := { name := "fnExactStandFor", fn := fun _ => fun
  | [d1, d2, d3] => { results := [.lit (.bool true)], args := [d1, d2, d3] }
  | _ => none }
def fnExactStandForRow : OpenClaim := { program := "ytlablieekijgoaadoor", sum := "8a7551db4b88ff6c7853456332150ecfc0964f7804eaec0e4f32a13040487d7f", func := "loop.example/g01035/laws.FnExactStandFor", spec := "fnExactStandFor", inPlace := ["internal/bytealg.IndexByteString", "internal/bytealg.IndexString"], unfollowed := true, recurses := true, named := ["unicode/utf8.first", "unicode/utf8.acceptRanges", "internal/bytealg.MaxLen"], apart := false, laid := [("unicode/utf8.acceptRanges", laid_unicode_utf8_acceptRanges), ("unicode/utf8.first", laid_unicode_utf8_first)] }
def FnExactStandForSaid : Prop := fnExactStandForRow.holds Tryd.pinned (OpenSpec.ofChange fnExactStandForSpec)

/-- ITS FALSE NEIGHBOUR: 'it returns false'. Refute it at one input. -/
def fnExactStandForWrong : ChangeSpec := { name := "fnExactStandFor", fn := fun _ => fun
  | [d1, d2, d3] => { results := [.lit (.bool false)], args := [d1, d2, d3] }
  | _ => none }
def FnExactStandForWrongFalsely : Prop := fnExactStandForRow.holds Tryd.pinned (OpenSpec.ofChange fnExactStandForWrong)

/-- 'laws.FnExactGiveRight': WHATEVER THE INPUT: true; the input reads as it did. -/
def fnExactGiveRightSpec : ChangeSpec := { name := "fnExactGiveRight", fn := fun _ => fun
  | [d1, d2, d3] => { results := [.lit (.bool true)], args := [d1, d2, d3] }
  | _ => none }
def fnExactGiveRightRow : OpenClaim := { program := "ytlablieekijgoaadoor", sum := "8a7551db4b88ff6c7853456332150ecfc0964f7804eaec0e4f32a13040487d7f", func := "loop.example/g01035/laws.FnExactGiveRight", spec := "fnExactGiveRight", inPlace := ["internal/bytealg.IndexByteString", "internal/bytealg.IndexString"], unfollowed := true, recurses := true, named := ["unicode/utf8.first", "unicode/utf8.acceptRanges", "internal/bytealg.MaxLen"], apart := false, laid := [("unicode/utf8.acceptRanges", laid_unicode_utf8_acceptRanges), ("unicode/utf8.first", laid_unicode_utf8_first)] }
def FnExactGiveRightSaid : Prop := fnExactGiveRightRow.holds Tryd.pinned (OpenSpec.ofChange fnExactGiveRightSpec)

/-- ITS FALSE NEIGHBOUR: 'it returns false'. Refute it at one input. -/
def fnExactGiveRightWrong : ChangeSpec := { name := "fnExactGiveRight", fn := fun _ => fun
  | [d1, d2, d3] => { results := [.lit (.bool false)], args := [d1, d2, d3] }
  | _ => none }
def FnExactGiveRightWrongFalsely : Prop := fnExactGiveRightRow.holds Tryd.pinned (OpenSpec.ofChange fnExactGiveRightWrong)

/-- 'laws.FnExactTakeRight': WHATEVER THE INPUT: true; the input reads as it did. -/
def fnExactTakeRightSpec : ChangeSpec := { name := "fnExactTakeRight", fn := fun _ => fun
  | [d1, d2, d3] => { results := [.lit (.bool true)], args := [d1, d2, d3] }
  | _ => none }
def fnExactTakeRightRow : OpenClaim := { program := "ytlablieekijgoaadoor", sum := "8a7551db4b88ff6c7853456332150ecfc0964f7804eaec0e4f32a13040487d7f", func := "loop.example/g01035/laws.FnExactTakeRight", spec := "fnExactTakeRight", inPlace := ["internal/bytealg.IndexByteString", "internal/bytealg.IndexString"], unfollowed := true, recurses := true, named := ["unicode/utf8.first", "unicode/utf8.acceptRanges", "internal/bytealg.MaxLen"], apart := false, laid := [("unicode/utf8.acceptRanges", laid_unicode_utf8_acceptRanges), ("unicode/utf8.first", laid_unicode_utf8_first)] }
def FnExactTakeRightSaid : Prop := fnExactTakeRightRow.holds Tryd.pinned (OpenSpec.ofChange fnExactTakeRightSpec)

/-- ITS FALSE NEIGHBOUR: 'it returns false'. Refute it at one input. -/
def fnExactTakeRightWrong : ChangeSpec := { name := "fnExactTakeRight", fn := fun _ => fun
  | [d1, d2, d3] => { results := [.lit (.bool false)], args := [d1, d2, d3] }
  | _ => none }
def FnExactTakeRightWrongFalsely : Prop := fnExactTakeRightRow.holds Tryd.pinned (OpenSpec.ofChange fnExactTakeRightWrong)

/-- 'laws.FnExactWhoMay': WHATEVER THE INPUT: true; the input reads as it did. -/
def fnExactWhoMaySpec : ChangeSpec := { name := "fnExactWhoMay", fn := fun _ => fun
  | [d1, d2, d3] => { results := [.lit (.bool true)], args := [d1, d2, d3] }
  | _ => none }
def fnExactWhoMayRow : OpenClaim := { program := "ytlablieekijgoaadoor", sum := "8a7551db4b88ff6c7853456332150ecfc0964f7804eaec0e4f32a13040487d7f", func := "loop.example/g01035/laws.FnExactWhoMay", spec := "fnExactWhoMay", inPlace := ["internal/bytealg.IndexByteString", "internal/bytealg.IndexString"], unfollowed := true, recurses := true, named := ["unicode/utf8.first", "unicode/utf8.acceptRanges", "internal/bytealg.MaxLen"], apart := false, laid := [("unicode/utf8.acceptRanges", laid_unicode_utf8_acceptRanges), ("unicode/utf8.first", laid_unicode_utf8_first)] }
def FnExactWhoMaySaid : Prop := fnExactWhoMayRow.holds Tryd.pinned (OpenSpec.ofChange fnExactWhoMaySpec)

/-- ITS FALSE NEIGHBOUR: 'it returns false'. Refute it at one input. -/
def fnExactWhoMayWrong : ChangeSpec := { name := "fnExactWhoMay", fn := fun _ => fun
  | [d1, d2, d3] => { results := [.lit (.bool false)], args := [d1, d2, d3] }
  | _ => none }
def FnExactWhoMayWrongFalsely : Prop := fnExactWhoMayRow.holds Tryd.pinned (OpenSpec.ofChange fnExactWhoMayWrong)

/-- 'laws.FnExactDaysWithout': WHATEVER THE INPUT: true; the input reads as it did. -/
def fnExactDaysWithoutSpec : ChangeSpec := { name := "fnExactDaysWithout", fn := fun _ => fun
  | [d1, d2, d3, d4] => { results := [.lit (.bool true)], args := [d1, d2, d3, d4] }
  | _ => none }
def fnExactDaysWithoutRow : OpenClaim := { program := "ytlablieekijgoaadoor", sum := "8a7551db4b88ff6c7853456332150ecfc0964f7804eaec0e4f32a13040487d7f", func := "loop.example/g01035/laws.FnExactDaysWithout", spec := "fnExactDaysWithout", inPlace := ["internal/bytealg.IndexByteString", "internal/bytealg.IndexString"], unfollowed := true, recurses := true, named := ["unicode/utf8.first", "unicode/utf8.acceptRanges", "internal/bytealg.MaxLen"], apart := false, laid := [("unicode/utf8.acceptRanges", laid_unicode_utf8_acceptRanges), ("unicode/utf8.first", laid_unicode_utf8_first)] }
def FnExactDaysWithoutSaid : Prop := fnExactDaysWithoutRow.holds Tryd.pinned (OpenSpec.ofChange fnExactDaysWithoutSpec)

/-- ITS FALSE NEIGHBOUR: 'it returns false'. Refute it at one input. -/
def fnExactDaysWithoutWrong : ChangeSpec := { name := "fnExactDaysWithout", fn := fun _ => fun
  | [d1, d2, d3, d4] => { results := [.lit (.bool false)], args := [d1, d2, d3, d4] }
  | _ => none }
def FnExactDaysWithoutWrongFalsely : Prop := fnExactDaysWithoutRow.holds Tryd.pinned (OpenSpec.ofChange fnExactDaysWithoutWrong)

/- THE SECOND FORM. 'bulk': how many values and letters a reading holds, each counted each time it is reached (what is shared counts as often as it is met; a slice's spare places count too). A statement '..UptoSaid' is the law's where the arguments, and the package variables that the reading takes, are together of bulk at most 1048576: NARROWER than '..Said'. Prove '..Said' where nothing that the law and all that it calls make is longer than what came in: it says more and counts as full. Else prove '..UptoSaid'. A law counts once. -/
mutual
def uptoBulk {H : Type} : DataW H → Nat
  | .lit (.string bytes) => bytes.length + 1
  | .lit _ => 1
  | .nil => 1
  | .ptr d => uptoBulk d + 1
  | .slice elems spare => uptoBulkAll elems + uptoBulkAll spare + 1
  | .agg parts => uptoBulkAll parts + 1
  | .iface _ d => uptoBulk d + 1
  | .map entries => uptoBulkEntries entries + 1
  | .held _ => 1
def uptoBulkAll {H : Type} : List (DataW H) → Nat
  | [] => 0
  | d :: r => uptoBulk d + uptoBulkAll r
def uptoBulkEntries {H : Type} : List (Lit × DataW H) → Nat
  | [] => 0
  | x :: r => uptoBulkEntry x + uptoBulkEntries r
def uptoBulkEntry {H : Type} : Lit × DataW H → Nat
  | (.string bytes, d) => bytes.length + uptoBulk d + 1
  | (_, d) => uptoBulk d + 1
 end
def uptoSmall : (H : Type) → List (DataW H) → Bool := fun _ ds => decide (uptoBulkAll ds ≤ 1048576)
def OpenSpec.upto (s : _root_.Go.ChangeSpec) : _root_.Go.OpenSpec := { _root_.Go.OpenSpec.ofChange s with cond := some uptoSmall }

/-- 'laws.FnExactIsClerk', WHERE WHAT IT READS IS OF BULK AT MOST 1048576: true; the input reads as it did. -/
def fnExactIsClerkUptoRow : OpenClaim := { program := "ytlablieekijgoaadoor", sum := "8a7551db4b88ff6c7853456332150ecfc0964f7804eaec0e4f32a13040487d7f", func := "loop.example/g01035/laws.FnExactIsClerk", spec := "fnExactIsClerk", inPlace := ["internal/bytealg.IndexByteString", "internal/bytealg.IndexString"], named := ["unicode/utf8.first", "unicode/utf8.acceptRanges", "internal/bytealg.MaxLen"], apart := false, laid := [("unicode/utf8.acceptRanges", laid_unicode_utf8_acceptRanges), ("unicode/utf8.first", laid_unicode_utf8_first)], narrowed := true }
def FnExactIsClerkUptoSaid : Prop := fnExactIsClerkUptoRow.holds Tryd.pinned (OpenSpec.upto fnExactIsClerkSpec)

/-- 'laws.FnExactAreClerks', WHERE WHAT IT READS IS OF BULK AT MOST 1048576: true; the input reads as it did. -/
def fnExactAreClerksUptoRow : OpenClaim := { program := "ytlablieekijgoaadoor", sum := "8a7551db4b88ff6c7853456332150ecfc0964f7804eaec0e4f32a13040487d7f", func := "loop.example/g01035/laws.FnExactAreClerks", spec := "fnExactAreClerks", inPlace := ["internal/bytealg.IndexByteString", "internal/bytealg.IndexString"], unfollowed := true, recurses := true, named := ["unicode/utf8.first", "unicode/utf8.acceptRanges", "internal/bytealg.MaxLen"], apart := false, laid := [("unicode/utf8.acceptRanges", laid_unicode_utf8_acceptRanges), ("unicode/utf8.first", laid_unicode_utf8_first)], narrowed := true }
def FnExactAreClerksUptoSaid : Prop := fnExactAreClerksUptoRow.holds Tryd.pinned (OpenSpec.upto fnExactAreClerksSpec)

/-- 'laws.FnExactRightsOn', WHERE WHAT IT READS IS OF BULK AT MOST 1048576: true; the input reads as it did. -/
def fnExactRightsOnUptoRow : OpenClaim := { program := "ytlablieekijgoaadoor", sum := "8a7551db4b88ff6c7853456332150ecfc0964f7804eaec0e4f32a13040487d7f", func := "loop.example/g01035/laws.FnExactRightsOn", spec := "fnExactRightsOn", inPlace := ["internal/bytealg.IndexByteString", "internal/bytealg.IndexString"], unfollowed := true, recurses := true, named := ["unicode/utf8.first", "unicode/utf8.acceptRanges", "internal/bytealg.MaxLen"], apart := false, laid := [("unicode/utf8.acceptRanges", laid_unicode_utf8_acceptRanges), ("unicode/utf8.first", laid_unicode_utf8_first)], narrowed := true }
def FnExactRightsOnUptoSaid : Prop := fnExactRightsOnUptoRow.holds Tryd.pinned (OpenSpec.upto fnExactRightsOnSpec)

/-- 'laws.FnExactMayDo', WHERE WHAT IT READS IS OF BULK AT MOST 1048576: true; the input reads as it did. -/
def fnExactMayDoUptoRow : OpenClaim := { program := "ytlablieekijgoaadoor", sum := "8a7551db4b88ff6c7853456332150ecfc0964f7804eaec0e4f32a13040487d7f", func := "loop.example/g01035/laws.FnExactMayDo", spec := "fnExactMayDo", inPlace := ["internal/bytealg.IndexByteString", "internal/bytealg.IndexString"], unfollowed := true, recurses := true, named := ["unicode/utf8.first", "unicode/utf8.acceptRanges", "internal/bytealg.MaxLen"], apart := false, laid := [("unicode/utf8.acceptRanges", laid_unicode_utf8_acceptRanges), ("unicode/utf8.first", laid_unicode_utf8_first)], narrowed := true }
def FnExactMayDoUptoSaid : Prop := fnExactMayDoUptoRow.holds Tryd.pinned (OpenSpec.upto fnExactMayDoSpec)

/-- 'laws.FnExactPairFor', WHERE WHAT IT READS IS OF BULK AT MOST 1048576: true; the input reads as it did. -/
def fnExactPairForUptoRow : OpenClaim := { program := "ytlablieekijgoaadoor", sum := "8a7551db4b88ff6c7853456332150ecfc0964f7804eaec0e4f32a13040487d7f", func := "loop.example/g01035/laws.FnExactPairFor", spec := "fnExactPairFor", inPlace := ["internal/bytealg.IndexByteString", "internal/bytealg.IndexString"], unfollowed := true, recurses := true, named := ["unicode/utf8.first", "unicode/utf8.acceptRanges", "internal/bytealg.MaxLen"], apart := false, laid := [("unicode/utf8.acceptRanges", laid_unicode_utf8_acceptRanges), ("unicode/utf8.first", laid_unicode_utf8_first)], narrowed := true }
def FnExactPairForUptoSaid : Prop := fnExactPairForUptoRow.holds Tryd.pinned (OpenSpec.upto fnExactPairForSpec)

/-- 'laws.FnExactStandFor', WHERE WHAT IT READS IS OF BULK AT MOST 1048576: true; the input reads as it did. -/
def fnExactStandForUptoRow : OpenClaim := { program := "ytlablieekijgoaadoor", sum := "8a7551db4b88ff6c7853456332150ecfc0964f7804eaec0e4f32a13040487d7f", func := "loop.example/g01035/laws.FnExactStandFor", spec := "fnExactStandFor", inPlace := ["internal/bytealg.IndexByteString", "internal/bytealg.IndexString"], unfollowed := true, recurses := true, named := ["unicode/utf8.first", "unicode/utf8.acceptRanges", "internal/bytealg.MaxLen"], apart := false, laid := [("unicode/utf8.acceptRanges", laid_unicode_utf8_acceptRanges), ("unicode/utf8.first", laid_unicode_utf8_first)], narrowed := true }
def FnExactStandForUptoSaid : Prop := fnExactStandForUptoRow.holds Tryd.pinned (OpenSpec.upto fnExactStandForSpec)

/-- 'laws.FnExactGiveRight', WHERE WHAT IT READS IS OF BULK AT MOST 1048576: true; the input reads as it did. -/
def fnExactGiveRightUptoRow : OpenClaim := { program := "ytlablieekijgoaadoor", sum := "8a7551db4b88ff6c7853456332150ecfc0964f7804eaec0e4f32a13040487d7f", func := "loop.example/g01035/laws.FnExactGiveRight", spec := "fnExactGiveRight", inPlace := ["internal/bytealg.IndexByteString", "internal/bytealg.IndexString"], unfollowed := true, recurses := true, named := ["unicode/utf8.first", "unicode/utf8.acceptRanges", "internal/bytealg.MaxLen"], apart := false, laid := [("unicode/utf8.acceptRanges", laid_unicode_utf8_acceptRanges), ("unicode/utf8.first", laid_unicode_utf8_first)], narrowed := true }
def FnExactGiveRightUptoSaid : Prop := fnExactGiveRightUptoRow.holds Tryd.pinned (OpenSpec.upto fnExactGiveRightSpec)

/-- 'laws.FnExactTakeRight', WHERE WHAT IT READS IS OF BULK AT MOST 1048576: true; the input reads as it did. -/
def fnExactTakeRightUptoRow : OpenClaim := { program := "ytlablieekijgoaadoor", sum := "8a7551db4b88ff6c7853456332150ecfc0964f7804eaec0e4f32a13040487d7f", func := "loop.example/g01035/laws.FnExactTakeRight", spec := "fnExactTakeRight", inPlace := ["internal/bytealg.IndexByteString", "internal/bytealg.IndexString"], unfollowed := true, recurses := true, named := ["unicode/utf8.first", "unicode/utf8.acceptRanges", "internal/bytealg.MaxLen"], apart := false, laid := [("unicode/utf8.acceptRanges", laid_unicode_utf8_acceptRanges), ("unicode/utf8.first", laid_unicode_utf8_first)], narrowed := true }
def FnExactTakeRightUptoSaid : Prop := fnExactTakeRightUptoRow.holds Tryd.pinned (OpenSpec.upto fnExactTakeRightSpec)

/-- 'laws.FnExactWhoMay', WHERE WHAT IT READS IS OF BULK AT MOST 1048576: true; the input reads as it did. -/
def fnExactWhoMayUptoRow : OpenClaim := { program := "ytlablieekijgoaadoor", sum := "8a7551db4b88ff6c7853456332150ecfc0964f7804eaec0e4f32a13040487d7f", func := "loop.example/g01035/laws.FnExactWhoMay", spec := "fnExactWhoMay", inPlace := ["internal/bytealg.IndexByteString", "internal/bytealg.IndexString"], unfollowed := true, recurses := true, named := ["unicode/utf8.first", "unicode/utf8.acceptRanges", "internal/bytealg.MaxLen"], apart := false, laid := [("unicode/utf8.acceptRanges", laid_unicode_utf8_acceptRanges), ("unicode/utf8.first", laid_unicode_utf8_first)], narrowed := true }
def FnExactWhoMayUptoSaid : Prop := fnExactWhoMayUptoRow.holds Tryd.pinned (OpenSpec.upto fnExactWhoMaySpec)

/-- 'laws.FnExactDaysWithout', WHERE WHAT IT READS IS OF BULK AT MOST 1048576: true; the input reads as it did. -/
def fnExactDaysWithoutUptoRow : OpenClaim := { program := "ytlablieekijgoaadoor", sum := "8a7551db4b88ff6c7853456332150ecfc0964f7804eaec0e4f32a13040487d7f", func := "loop.example/g01035/laws.FnExactDaysWithout", spec := "fnExactDaysWithout", inPlace := ["internal/bytealg.IndexByteString", "internal/bytealg.IndexString"], unfollowed := true, recurses := true, named := ["unicode/utf8.first", "unicode/utf8.acceptRanges", "internal/bytealg.MaxLen"], apart := false, laid := [("unicode/utf8.acceptRanges", laid_unicode_utf8_acceptRanges), ("unicode/utf8.first", laid_unicode_utf8_first)], narrowed := true }
def FnExactDaysWithoutUptoSaid : Prop := fnExactDaysWithoutUptoRow.holds Tryd.pinned (OpenSpec.upto fnExactDaysWithoutSpec)

end Rows
end Go.Proofs.YtlablieekijgoaaDoor
