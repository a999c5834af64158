/-
  No cell of these rows narrows 'for every input' (looked for: loops, veiled, ifaces, maps, wideKeys, modest, calm, conditions, laid).
  DERIVED. THE GIVEN ROWS OF THIS SEAT. 8 by the template 'for every input the law returns true; each argument reads behind the call as it read before'; 0 by the template 'total and deterministic' (their statements: YtpmjjkhikciokaaTotals.lean).
  GIVEN WITH THE SEED: the statements are not yours to turn. If you find one false, say at which input.
  Laid BY PROGRAM, IN A SANDBOX (cutbox-rows.mjs): the forced cells as the released guide's own fill.sh prints them over the translation c83e370e2609a772… (all of the seat's roots in one cut). By AI agents, Wed Nov 11 2026. No macro, syntax, notation, axiom, sorry.
-/
import Derived.Test.YtpmjjkhikciokaaChecked
import GoSem.Claim
import GoSem.ClaimJoined
import GoSem.ClaimMapViews
import Derived.JoinedTies
import Derived.KernelRfl
namespace Go.Proofs.Ytpmjjkhikciokaa
/- THE CELL 'sum', in the pinned program and in every row, IS THE sha256 OF THE DUMP (.gsa) THAT YtpmjjkhikciokaaProg.lean LOADS. Nothing in Lean hashes anything: it is a label: what it is worth is what the hold of that sum in a sandbox is worth. -/
noncomputable def Try.pinned : Pinned := { name := "ytpmjjkhikciokaa", sum := "c83e370e2609a772b47119e795d61310bb7df239e90cf39da92fa25df08c1f7d", checked := Try.checked }
namespace Rows
def none {H : Type} : Left H := { results := [], args := [] }

/-- 'laws.FnExactSeriesGaps': WHATEVER THE INPUT: true; the input reads as it did. -/
def fnExactSeriesGapsSpec : ChangeSpec := { name := "fnExactSeriesGaps", fn := fun _ => fun
  | [d1, d2] => { results := [.lit (.bool true)], args := [d1, d2] }
  | _ => none }
def fnExactSeriesGapsRow : OpenClaim := { program := "ytpmjjkhikciokaa", sum := "c83e370e2609a772b47119e795d61310bb7df239e90cf39da92fa25df08c1f7d", func := "loop.example/g01035/laws.FnExactSeriesGaps", spec := "fnExactSeriesGaps", apart := false }
def FnExactSeriesGapsSaid : Prop := fnExactSeriesGapsRow.holds Try.pinned (OpenSpec.ofChange fnExactSeriesGapsSpec)

/-- ITS FALSE NEIGHBOUR: 'it returns false'. Refute it at one input. -/
def fnExactSeriesGapsWrong : ChangeSpec := { name := "fnExactSeriesGaps", fn := fun _ => fun
  | [d1, d2] => { results := [.lit (.bool false)], args := [d1, d2] }
  | _ => none }
def FnExactSeriesGapsWrongFalsely : Prop := fnExactSeriesGapsRow.holds Try.pinned (OpenSpec.ofChange fnExactSeriesGapsWrong)

/-- 'laws.FnExactNeverDecides': WHATEVER THE INPUT: true; the input reads as it did. -/
def fnExactNeverDecidesSpec : ChangeSpec := { name := "fnExactNeverDecides", fn := fun _ => fun
  | [d] => { results := [.lit (.bool true)], args := [d] }
  | _ => none }
def fnExactNeverDecidesRow : OpenClaim := { program := "ytpmjjkhikciokaa", sum := "c83e370e2609a772b47119e795d61310bb7df239e90cf39da92fa25df08c1f7d", func := "loop.example/g01035/laws.FnExactNeverDecides", spec := "fnExactNeverDecides", unfollowed := true, recurses := true, apart := false }
def FnExactNeverDecidesSaid : Prop := fnExactNeverDecidesRow.holds Try.pinned (OpenSpec.ofChange fnExactNeverDecidesSpec)

/-- ITS FALSE NEIGHBOUR: 'it returns false'. Refute it at one input. -/
def fnExactNeverDecidesWrong : ChangeSpec := { name := "fnExactNeverDecides", fn := fun _ => fun
  | [d] => { results := [.lit (.bool false)], args := [d] }
  | _ => none }
def FnExactNeverDecidesWrongFalsely : Prop := fnExactNeverDecidesRow.holds Try.pinned (OpenSpec.ofChange fnExactNeverDecidesWrong)

/-- 'laws.FnExactContradictions': WHATEVER THE INPUT: true; the input reads as it did. -/
def fnExactContradictionsSpec : ChangeSpec := { name := "fnExactContradictions", fn := fun _ => fun
  | [d] => { results := [.lit (.bool true)], args := [d] }
  | _ => none }
def fnExactContradictionsRow : OpenClaim := { program := "ytpmjjkhikciokaa", sum := "c83e370e2609a772b47119e795d61310bb7df239e90cf39da92fa25df08c1f7d", func := "loop.example/g01035/laws.FnExactContradictions", spec := "fnExactContradictions", unfollowed := true, recurses := true, apart := false }
def FnExactContradictionsSaid : Prop := fnExactContradictionsRow.holds Try.pinned (OpenSpec.ofChange fnExactContradictionsSpec)

/-- ITS FALSE NEIGHBOUR: 'it returns false'. Refute it at one input. -/
def fnExactContradictionsWrong : ChangeSpec := { name := "fnExactContradictions", fn := fun _ => fun
  | [d] => { results := [.lit (.bool false)], args := [d] }
  | _ => none }
def FnExactContradictionsWrongFalsely : Prop := fnExactContradictionsRow.holds Try.pinned (OpenSpec.ofChange fnExactContradictionsWrong)

/-- 'laws.FnExactWaitsFor': WHATEVER THE INPUT: true; the input reads as it did. -/
def fnExactWaitsForSpec : ChangeSpec := { name := "fnExactWaitsFor", fn := fun _ => fun
  | [d1, d2] => { results := [.lit (.bool true)], args := [d1, d2] }
  | _ => none }
def fnExactWaitsForRow : OpenClaim := { program := "ytpmjjkhikciokaa", sum := "c83e370e2609a772b47119e795d61310bb7df239e90cf39da92fa25df08c1f7d", func := "loop.example/g01035/laws.FnExactWaitsFor", spec := "fnExactWaitsFor", unfollowed := true, recurses := true, apart := false }
def FnExactWaitsForSaid : Prop := fnExactWaitsForRow.holds Try.pinned (OpenSpec.ofChange fnExactWaitsForSpec)

/-- ITS FALSE NEIGHBOUR: 'it returns false'. Refute it at one input. -/
def fnExactWaitsForWrong : ChangeSpec := { name := "fnExactWaitsFor", fn := fun _ => fun
  | [d1, d2] => { results := [.lit (.bool false)], args := [d1, d2] }
  | _ => none }
def FnExactWaitsForWrongFalsely : Prop := fnExactWaitsForRow.holds Try.pinned (OpenSpec.ofChange fnExactWaitsForWrong)

/-- 'laws.FnExactNotScheduled': WHATEVER THE INPUT: true; the input reads as it did. -/
def fnExactNotScheduledSpec : ChangeSpec := { name := "fnExactNotScheduled", fn := fun _ => fun
  | [d1, d2] => { results := [.lit (.bool true)], args := [d1, d2] }
  | _ => none }
def fnExactNotScheduledRow : OpenClaim := { program := "ytpmjjkhikciokaa", sum := "c83e370e2609a772b47119e795d61310bb7df239e90cf39da92fa25df08c1f7d", func := "loop.example/g01035/laws.FnExactNotScheduled", spec := "fnExactNotScheduled", apart := false }
def FnExactNotScheduledSaid : Prop := fnExactNotScheduledRow.holds Try.pinned (OpenSpec.ofChange fnExactNotScheduledSpec)

/-- ITS FALSE NEIGHBOUR: 'it returns false'. Refute it at one input. -/
def fnExactNotScheduledWrong : ChangeSpec := { name := "fnExactNotScheduled", fn := fun _ => fun
  | [d1, d2] => { results := [.lit (.bool false)], args := [d1, d2] }
  | _ => none }
def FnExactNotScheduledWrongFalsely : Prop := fnExactNotScheduledRow.holds Try.pinned (OpenSpec.ofChange fnExactNotScheduledWrong)

/-- 'laws.FnExactNextDue': WHATEVER THE INPUT: true; the input reads as it did. -/
def fnExactNextDueSpec : ChangeSpec := { name := "fnExactNextDue", fn := fun _ => fun
  | [d1, d2, d3] => { results := [.lit (.bool true)], args := [d1, d2, d3] }
  | _ => none }
def fnExactNextDueRow : OpenClaim := { program := "ytpmjjkhikciokaa", sum := "c83e370e2609a772b47119e795d61310bb7df239e90cf39da92fa25df08c1f7d", func := "loop.example/g01035/laws.FnExactNextDue", spec := "fnExactNextDue", unfollowed := true, recurses := true, apart := false }
def FnExactNextDueSaid : Prop := fnExactNextDueRow.holds Try.pinned (OpenSpec.ofChange fnExactNextDueSpec)

/-- ITS FALSE NEIGHBOUR: 'it returns false'. Refute it at one input. -/
def fnExactNextDueWrong : ChangeSpec := { name := "fnExactNextDue", fn := fun _ => fun
  | [d1, d2, d3] => { results := [.lit (.bool false)], args := [d1, d2, d3] }
  | _ => none }
def FnExactNextDueWrongFalsely : Prop := fnExactNextDueRow.holds Try.pinned (OpenSpec.ofChange fnExactNextDueWrong)

/-- 'laws.FnExactDueRecords': WHATEVER THE INPUT: true; the input reads as it did. -/
def fnExactDueRecordsSpec : ChangeSpec := { name := "fnExactDueRecords", fn := fun _ => fun
  | [d1, d2, d3, d4] => { results := [.lit (.bool true)], args := [d1, d2, d3, d4] }
  | _ => none }
def fnExactDueRecordsRow : OpenClaim := { program := "ytpmjjkhikciokaa", sum := "c83e370e2609a772b47119e795d61310bb7df239e90cf39da92fa25df08c1f7d", func := "loop.example/g01035/laws.FnExactDueRecords", spec := "fnExactDueRecords", unfollowed := true, recurses := true, apart := false }
def FnExactDueRecordsSaid : Prop := fnExactDueRecordsRow.holds Try.pinned (OpenSpec.ofChange fnExactDueRecordsSpec)

/-- ITS FALSE NEIGHBOUR: 'it returns false'. Refute it at one input. -/
def fnExactDueRecordsWrong : ChangeSpec := { name := "fnExactDueRecords", fn := fun _ => fun
  | [d1, d2, d3, d4] => { results := [.lit (.bool false)], args := [d1, d2, d3, d4] }
  | _ => none }
def FnExactDueRecordsWrongFalsely : Prop := fnExactDueRecordsRow.holds Try.pinned (OpenSpec.ofChange fnExactDueRecordsWrong)

/-- 'laws.FnExactDueAfter': WHATEVER THE INPUT: true; the input reads as it did. -/
def fnExactDueAfterSpec : ChangeSpec := { name := "fnExactDueAfter", fn := fun _ => fun
  | [d1, d2, d3] => { results := [.lit (.bool true)], args := [d1, d2, d3] }
  | _ => none }
def fnExactDueAfterRow : OpenClaim := { program := "ytpmjjkhikciokaa", sum := "c83e370e2609a772b47119e795d61310bb7df239e90cf39da92fa25df08c1f7d", func := "loop.example/g01035/laws.FnExactDueAfter", spec := "fnExactDueAfter", inPlace := ["slices.overlaps[loop.example/g01035/impl.Event]"], unfollowed := true, recurses := true, apart := false }
def FnExactDueAfterSaid : Prop := fnExactDueAfterRow.holds Try.pinned (OpenSpec.ofChange fnExactDueAfterSpec)

/-- ITS FALSE NEIGHBOUR: 'it returns false'. Refute it at one input. -/
def fnExactDueAfterWrong : ChangeSpec := { name := "fnExactDueAfter", fn := fun _ => fun
  | [d1, d2, d3] => { results := [.lit (.bool false)], args := [d1, d2, d3] }
  | _ => none }
def FnExactDueAfterWrongFalsely : Prop := fnExactDueAfterRow.holds Try.pinned (OpenSpec.ofChange fnExactDueAfterWrong)

/- THE SECOND FORM. 'bulk': how many values and letters a reading holds, each counted each time it is reached (what is shared counts as often as it is met; a slice's spare places count too). A statement '..UptoSaid' is the law's where the arguments, and the package variables that the reading takes, are together of bulk at most 1048576: NARROWER than '..Said'. Prove '..Said' where nothing that the law and all that it calls make is longer than what came in: it says more and counts as full. Else prove '..UptoSaid'. A law counts once. -/
mutual
def uptoBulk {H : Type} : DataW H → Nat
  | .lit (.string bytes) => bytes.length + 1
  | .lit _ => 1
  | .nil => 1
  | .ptr d => uptoBulk d + 1
  | .slice elems spare => uptoBulkAll elems + uptoBulkAll spare + 1
  | .agg parts => uptoBulkAll parts + 1
  | .iface _ d => uptoBulk d + 1
  | .map entries => uptoBulkEntries entries + 1
  | .held _ => 1
def uptoBulkAll {H : Type} : List (DataW H) → Nat
  | [] => 0
  | d :: r => uptoBulk d + uptoBulkAll r
def uptoBulkEntries {H : Type} : List (Lit × DataW H) → Nat
  | [] => 0
  | x :: r => uptoBulkEntry x + uptoBulkEntries r
def uptoBulkEntry {H : Type} : Lit × DataW H → Nat
  | (.string bytes, d) => bytes.length + uptoBulk d + 1
  | (_, d) => uptoBulk d + 1
 end
def uptoSmall : (H : Type) → List (DataW H) → Bool := fun _ ds => decide (uptoBulkAll ds ≤ 1048576)
def OpenSpec.upto (s : _root_.Go.ChangeSpec) : _root_.Go.OpenSpec := { _root_.Go.OpenSpec.ofChange s with cond := some uptoSmall }

/-- 'laws.FnExactSeriesGaps', WHERE WHAT IT READS IS OF BULK AT MOST 1048576: true; the input reads as it did. -/
def fnExactSeriesGapsUptoRow : OpenClaim := { program := "ytpmjjkhikciokaa", sum := "c83e370e2609a772b47119e795d61310bb7df239e90cf39da92fa25df08c1f7d", func := "loop.example/g01035/laws.FnExactSeriesGaps", spec := "fnExactSeriesGaps", apart := false, narrowed := true }
def FnExactSeriesGapsUptoSaid : Prop := fnExactSeriesGapsUptoRow.holds Try.pinned (OpenSpec.upto fnExactSeriesGapsSpec)

/-- 'laws.FnExactNeverDecides', WHERE WHAT IT READS IS OF BULK AT MOST 1048576: true; the input reads as it did. -/
def fnExactNeverDecidesUptoRow : OpenClaim := { program := "ytpmjjkhikciokaa", sum := "c83e370e2609a772b47119e795d61310bb7df239e90cf39da92fa25df08c1f7d", func := "loop.example/g01035/laws.FnExactNeverDecides", spec := "fnExactNeverDecides", unfollowed := true, recurses := true, apart := false, narrowed := true }
def FnExactNeverDecidesUptoSaid : Prop := fnExactNeverDecidesUptoRow.holds Try.pinned (OpenSpec.upto fnExactNeverDecidesSpec)

/-- 'laws.FnExactContradictions', WHERE WHAT IT READS IS OF BULK AT MOST 1048576: true; the input reads as it did. -/
def fnExactContradictionsUptoRow : OpenClaim := { program := "ytpmjjkhikciokaa", sum := "c83e370e2609a772b47119e795d61310bb7df239e90cf39da92fa25df08c1f7d", func := "loop.example/g01035/laws.FnExactContradictions", spec := "fnExactContradictions", unfollowed := true, recurses := true, apart := false, narrowed := true }
def FnExactContradictionsUptoSaid : Prop := fnExactContradictionsUptoRow.holds Try.pinned (OpenSpec.upto fnExactContradictionsSpec)

/-- 'laws.FnExactWaitsFor', WHERE WHAT IT READS IS OF BULK AT MOST 1048576: true; the input reads as it did. -/
def fnExactWaitsForUptoRow : OpenClaim := { program := "ytpmjjkhikciokaa", sum := "c83e370e2609a772b47119e795d61310bb7df239e90cf39da92fa25df08c1f7d", func := "loop.example/g01035/laws.FnExactWaitsFor", spec := "fnExactWaitsFor", unfollowed := true, recurses := true, apart := false, narrowed := true }
def FnExactWaitsForUptoSaid : Prop := fnExactWaitsForUptoRow.holds Try.pinned (OpenSpec.upto fnExactWaitsForSpec)

/-- 'laws.FnExactNotScheduled', WHERE WHAT IT READS IS OF BULK AT MOST 1048576: true; the input reads as it did. -/
def fnExactNotScheduledUptoRow : OpenClaim := { program := "ytpmjjkhikciokaa", sum := "c83e370e2609a772b47119e795d61310bb7df239e90cf39da92fa25df08c1f7d", func := "loop.example/g01035/laws.FnExactNotScheduled", spec := "fnExactNotScheduled", apart := false, narrowed := true }
def FnExactNotScheduledUptoSaid : Prop := fnExactNotScheduledUptoRow.holds Try.pinned (OpenSpec.upto fnExactNotScheduledSpec)

/-- 'laws.FnExactNextDue', WHERE WHAT IT READS IS OF BULK AT MOST 1048576: true; the input reads as it did. -/
def fnExactNextDueUptoRow : OpenClaim := { program := "ytpmjjkhikciokaa", sum := "c83e370e2609a772b47119e795d61310bb7df239e90cf39da92fa25df08c1f7d", func := "loop.example/g01035/laws.FnExactNextDue", spec := "fnExactNextDue", unfollowed := true, recurses := true, apart := false, narrowed := true }
def FnExactNextDueUptoSaid : Prop := fnExactNextDueUptoRow.holds Try.pinned (OpenSpec.upto fnExactNextDueSpec)

/-- 'laws.FnExactDueRecords', WHERE WHAT IT READS IS OF BULK AT MOST 1048576: true; the input reads as it did. -/
def fnExactDueRecordsUptoRow : OpenClaim := { program := "ytpmjjkhikciokaa", sum := "c83e370e2609a772b47119e795d61310bb7df239e90cf39da92fa25df08c1f7d", func := "loop.example/g01035/laws.FnExactDueRecords", spec := "fnExactDueRecords", unfollowed := true, recurses := true, apart := false, narrowed := true }
def FnExactDueRecordsUptoSaid : Prop := fnExactDueRecordsUptoRow.holds Try.pinned (OpenSpec.upto fnExactDueRecordsSpec)

/-- 'laws.FnExactDueAfter', WHERE WHAT IT READS IS OF BULK AT MOST 1048576: true; the input reads as it did. -/
def fnExactDueAfterUptoRow : OpenClaim := { program := "ytpmjjkhikciokaa", sum := "c83e370e2609a772b47119e795d61310bb7df239e90cf39da92fa25df08c1f7d", func := "loop.example/g01035/laws.FnExactDueAfter", spec := "fnExactDueAfter", inPlace := ["slices.overlaps[loop.example/g01035/impl.Event]"], unfollowed := true, recurses := true, apart := false, narrowed := true }
def FnExactDueAfterUptoSaid : Prop := fnExactDueAfterUptoRow.holds Try.pinned (OpenSpec.upto fnExactDueAfterSpec)

end Rows
end Go.Proofs.Ytpmjjkhikciokaa
