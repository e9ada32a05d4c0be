/-
  No cell of these rows narrows 'for every input' (looked for: loops, veiled, ifaces, maps, wideKeys, modest, calm, conditions, laid).
  DERIVED. THE GIVEN ROWS OF THIS SEAT. 9 by the template 'for every input the law returns true; each argument reads behind the call as it read before'; 0 by the template 'total and deterministic' (their statements: YtjjjalkfpajckaaTotals.lean).
  GIVEN WITH THE SEED: the statements are not yours to turn. If you find one false, say at which input.
  Laid BY PROGRAM, IN A SANDBOX (cutbox-rows.mjs): the forced cells as the released guide's own fill.sh prints them over the translation aecc1eda5c0dfdb5… (all of the seat's roots in one cut). By AI agents, Wed Nov 11 2026. No macro, syntax, notation, axiom, sorry.
-/
import Derived.Test.YtjjjalkfpajckaaChecked
import GoSem.Claim
import GoSem.ClaimJoined
import GoSem.ClaimMapViews
import Derived.JoinedTies
import Derived.KernelRfl
namespace Go.Proofs.Ytjjjalkfpajckaa
/- THE CELL 'sum', in the pinned program and in every row, IS THE sha256 OF THE DUMP (.gsa) THAT YtjjjalkfpajckaaProg.lean LOADS. Nothing in Lean hashes anything: it is a label: what it is worth is what the hold of that sum in a sandbox is worth. -/
noncomputable def Try.pinned : Pinned := { name := "ytjjjalkfpajckaa", sum := "aecc1eda5c0dfdb58d3dd555c5e249adcbeda4a8e79cdcc0bd2e670ed5c2b7ac", checked := Try.checked }
namespace Rows
def none {H : Type} : Left H := { results := [], args := [] }

/-- 'laws.FnSplits': WHATEVER THE INPUT: true; the input reads as it did. -/
def fnSplitsSpec : ChangeSpec := { name := "fnSplits", fn := fun _ => fun
  | [d] => { results := [.lit (.bool true)], args := [d] }
  | _ => none }
def fnSplitsRow : OpenClaim := { program := "ytjjjalkfpajckaa", sum := "aecc1eda5c0dfdb58d3dd555c5e249adcbeda4a8e79cdcc0bd2e670ed5c2b7ac", func := "loop.example/g01103/laws.FnSplits", spec := "fnSplits", apart := false }
def FnSplitsSaid : Prop := fnSplitsRow.holds Try.pinned (OpenSpec.ofChange fnSplitsSpec)

/-- ITS FALSE NEIGHBOUR: 'it returns false'. Refute it at one input. -/
def fnSplitsWrong : ChangeSpec := { name := "fnSplits", fn := fun _ => fun
  | [d] => { results := [.lit (.bool false)], args := [d] }
  | _ => none }
def FnSplitsWrongFalsely : Prop := fnSplitsRow.holds Try.pinned (OpenSpec.ofChange fnSplitsWrong)

/-- 'laws.FnCases': WHATEVER THE INPUT: true; the input reads as it did. -/
def fnCasesSpec : ChangeSpec := { name := "fnCases", fn := fun _ => fun
  | [d] => { results := [.lit (.bool true)], args := [d] }
  | _ => none }
def fnCasesRow : OpenClaim := { program := "ytjjjalkfpajckaa", sum := "aecc1eda5c0dfdb58d3dd555c5e249adcbeda4a8e79cdcc0bd2e670ed5c2b7ac", func := "loop.example/g01103/laws.FnCases", spec := "fnCases", unfollowed := true, recurses := true, apart := false }
def FnCasesSaid : Prop := fnCasesRow.holds Try.pinned (OpenSpec.ofChange fnCasesSpec)

/-- ITS FALSE NEIGHBOUR: 'it returns false'. Refute it at one input. -/
def fnCasesWrong : ChangeSpec := { name := "fnCases", fn := fun _ => fun
  | [d] => { results := [.lit (.bool false)], args := [d] }
  | _ => none }
def FnCasesWrongFalsely : Prop := fnCasesRow.holds Try.pinned (OpenSpec.ofChange fnCasesWrong)

/-- 'laws.FnPrecedence': WHATEVER THE INPUT: true; the input reads as it did. -/
def fnPrecedenceSpec : ChangeSpec := { name := "fnPrecedence", fn := fun _ => fun
  | [d] => { results := [.lit (.bool true)], args := [d] }
  | _ => none }
def fnPrecedenceRow : OpenClaim := { program := "ytjjjalkfpajckaa", sum := "aecc1eda5c0dfdb58d3dd555c5e249adcbeda4a8e79cdcc0bd2e670ed5c2b7ac", func := "loop.example/g01103/laws.FnPrecedence", spec := "fnPrecedence", recurses := true, apart := false }
def FnPrecedenceSaid : Prop := fnPrecedenceRow.holds Try.pinned (OpenSpec.ofChange fnPrecedenceSpec)

/-- ITS FALSE NEIGHBOUR: 'it returns false'. Refute it at one input. -/
def fnPrecedenceWrong : ChangeSpec := { name := "fnPrecedence", fn := fun _ => fun
  | [d] => { results := [.lit (.bool false)], args := [d] }
  | _ => none }
def FnPrecedenceWrongFalsely : Prop := fnPrecedenceRow.holds Try.pinned (OpenSpec.ofChange fnPrecedenceWrong)

/-- 'laws.FnLastCost': WHATEVER THE INPUT: true; the input reads as it did. -/
def fnLastCostSpec : ChangeSpec := { name := "fnLastCost", fn := fun _ => fun
  | [d] => { results := [.lit (.bool true)], args := [d] }
  | _ => none }
def fnLastCostRow : OpenClaim := { program := "ytjjjalkfpajckaa", sum := "aecc1eda5c0dfdb58d3dd555c5e249adcbeda4a8e79cdcc0bd2e670ed5c2b7ac", func := "loop.example/g01103/laws.FnLastCost", spec := "fnLastCost", unfollowed := true, recurses := true, apart := false }
def FnLastCostSaid : Prop := fnLastCostRow.holds Try.pinned (OpenSpec.ofChange fnLastCostSpec)

/-- ITS FALSE NEIGHBOUR: 'it returns false'. Refute it at one input. -/
def fnLastCostWrong : ChangeSpec := { name := "fnLastCost", fn := fun _ => fun
  | [d] => { results := [.lit (.bool false)], args := [d] }
  | _ => none }
def FnLastCostWrongFalsely : Prop := fnLastCostRow.holds Try.pinned (OpenSpec.ofChange fnLastCostWrong)

/-- 'laws.FnFlows': WHATEVER THE INPUT: true; the input reads as it did. -/
def fnFlowsSpec : ChangeSpec := { name := "fnFlows", fn := fun _ => fun
  | [d] => { results := [.lit (.bool true)], args := [d] }
  | _ => none }
def fnFlowsRow : OpenClaim := { program := "ytjjjalkfpajckaa", sum := "aecc1eda5c0dfdb58d3dd555c5e249adcbeda4a8e79cdcc0bd2e670ed5c2b7ac", func := "loop.example/g01103/laws.FnFlows", spec := "fnFlows", unfollowed := true, recurses := true, apart := false }
def FnFlowsSaid : Prop := fnFlowsRow.holds Try.pinned (OpenSpec.ofChange fnFlowsSpec)

/-- ITS FALSE NEIGHBOUR: 'it returns false'. Refute it at one input. -/
def fnFlowsWrong : ChangeSpec := { name := "fnFlows", fn := fun _ => fun
  | [d] => { results := [.lit (.bool false)], args := [d] }
  | _ => none }
def FnFlowsWrongFalsely : Prop := fnFlowsRow.holds Try.pinned (OpenSpec.ofChange fnFlowsWrong)

/-- 'laws.FnAnomalies': WHATEVER THE INPUT: true; the input reads as it did. -/
def fnAnomaliesSpec : ChangeSpec := { name := "fnAnomalies", fn := fun _ => fun
  | [d] => { results := [.lit (.bool true)], args := [d] }
  | _ => none }
def fnAnomaliesRow : OpenClaim := { program := "ytjjjalkfpajckaa", sum := "aecc1eda5c0dfdb58d3dd555c5e249adcbeda4a8e79cdcc0bd2e670ed5c2b7ac", func := "loop.example/g01103/laws.FnAnomalies", spec := "fnAnomalies", unfollowed := true, recurses := true, apart := false }
def FnAnomaliesSaid : Prop := fnAnomaliesRow.holds Try.pinned (OpenSpec.ofChange fnAnomaliesSpec)

/-- ITS FALSE NEIGHBOUR: 'it returns false'. Refute it at one input. -/
def fnAnomaliesWrong : ChangeSpec := { name := "fnAnomalies", fn := fun _ => fun
  | [d] => { results := [.lit (.bool false)], args := [d] }
  | _ => none }
def FnAnomaliesWrongFalsely : Prop := fnAnomaliesRow.holds Try.pinned (OpenSpec.ofChange fnAnomaliesWrong)

/-- 'laws.FnPlans': WHATEVER THE INPUT: true; the input reads as it did. -/
def fnPlansSpec : ChangeSpec := { name := "fnPlans", fn := fun _ => fun
  | [d] => { results := [.lit (.bool true)], args := [d] }
  | _ => none }
def fnPlansRow : OpenClaim := { program := "ytjjjalkfpajckaa", sum := "aecc1eda5c0dfdb58d3dd555c5e249adcbeda4a8e79cdcc0bd2e670ed5c2b7ac", func := "loop.example/g01103/laws.FnPlans", spec := "fnPlans", unfollowed := true, recurses := true, apart := false }
def FnPlansSaid : Prop := fnPlansRow.holds Try.pinned (OpenSpec.ofChange fnPlansSpec)

/-- ITS FALSE NEIGHBOUR: 'it returns false'. Refute it at one input. -/
def fnPlansWrong : ChangeSpec := { name := "fnPlans", fn := fun _ => fun
  | [d] => { results := [.lit (.bool false)], args := [d] }
  | _ => none }
def FnPlansWrongFalsely : Prop := fnPlansRow.holds Try.pinned (OpenSpec.ofChange fnPlansWrong)

/-- 'laws.FnSidney': WHATEVER THE INPUT: true; the input reads as it did. -/
def fnSidneySpec : ChangeSpec := { name := "fnSidney", fn := fun _ => fun
  | [d] => { results := [.lit (.bool true)], args := [d] }
  | _ => none }
def fnSidneyRow : OpenClaim := { program := "ytjjjalkfpajckaa", sum := "aecc1eda5c0dfdb58d3dd555c5e249adcbeda4a8e79cdcc0bd2e670ed5c2b7ac", func := "loop.example/g01103/laws.FnSidney", spec := "fnSidney", unfollowed := true, recurses := true, apart := false }
def FnSidneySaid : Prop := fnSidneyRow.holds Try.pinned (OpenSpec.ofChange fnSidneySpec)

/-- ITS FALSE NEIGHBOUR: 'it returns false'. Refute it at one input. -/
def fnSidneyWrong : ChangeSpec := { name := "fnSidney", fn := fun _ => fun
  | [d] => { results := [.lit (.bool false)], args := [d] }
  | _ => none }
def FnSidneyWrongFalsely : Prop := fnSidneyRow.holds Try.pinned (OpenSpec.ofChange fnSidneyWrong)

/-- 'laws.FnSeries': WHATEVER THE INPUT: true; the input reads as it did. -/
def fnSeriesSpec : ChangeSpec := { name := "fnSeries", fn := fun _ => fun
  | [d] => { results := [.lit (.bool true)], args := [d] }
  | _ => none }
def fnSeriesRow : OpenClaim := { program := "ytjjjalkfpajckaa", sum := "aecc1eda5c0dfdb58d3dd555c5e249adcbeda4a8e79cdcc0bd2e670ed5c2b7ac", func := "loop.example/g01103/laws.FnSeries", spec := "fnSeries", unfollowed := true, recurses := true, apart := false }
def FnSeriesSaid : Prop := fnSeriesRow.holds Try.pinned (OpenSpec.ofChange fnSeriesSpec)

/-- ITS FALSE NEIGHBOUR: 'it returns false'. Refute it at one input. -/
def fnSeriesWrong : ChangeSpec := { name := "fnSeries", fn := fun _ => fun
  | [d] => { results := [.lit (.bool false)], args := [d] }
  | _ => none }
def FnSeriesWrongFalsely : Prop := fnSeriesRow.holds Try.pinned (OpenSpec.ofChange fnSeriesWrong)

/- THE SECOND FORM. 'bulk': how many values and letters a reading holds, each counted each time it is reached (what is shared counts as often as it is met; a slice's spare places count too). A statement '..UptoSaid' is the law's where the arguments, and the package variables that the reading takes, are together of bulk at most 1048576: NARROWER than '..Said'. Prove '..Said' where nothing that the law and all that it calls make is longer than what came in: it says more and counts as full. Else prove '..UptoSaid'. A law counts once. -/
mutual
def uptoBulk {H : Type} : DataW H → Nat
  | .lit (.string bytes) => bytes.length + 1
  | .lit _ => 1
  | .nil => 1
  | .ptr d => uptoBulk d + 1
  | .slice elems spare => uptoBulkAll elems + uptoBulkAll spare + 1
  | .agg parts => uptoBulkAll parts + 1
  | .iface _ d => uptoBulk d + 1
  | .map entries => uptoBulkEntries entries + 1
  | .held _ => 1
def uptoBulkAll {H : Type} : List (DataW H) → Nat
  | [] => 0
  | d :: r => uptoBulk d + uptoBulkAll r
def uptoBulkEntries {H : Type} : List (Lit × DataW H) → Nat
  | [] => 0
  | x :: r => uptoBulkEntry x + uptoBulkEntries r
def uptoBulkEntry {H : Type} : Lit × DataW H → Nat
  | (.string bytes, d) => bytes.length + uptoBulk d + 1
  | (_, d) => uptoBulk d + 1
 end
def uptoSmall : (H : Type) → List (DataW H) → Bool := fun _ ds => decide (uptoBulkAll ds ≤ 1048576)
def OpenSpec.upto (s : _root_.Go.ChangeSpec) : _root_.Go.OpenSpec := { _root_.Go.OpenSpec.ofChange s with cond := some uptoSmall }

/-- 'laws.FnSplits', WHERE WHAT IT READS IS OF BULK AT MOST 1048576: true; the input reads as it did. -/
def fnSplitsUptoRow : OpenClaim := { program := "ytjjjalkfpajckaa", sum := "aecc1eda5c0dfdb58d3dd555c5e249adcbeda4a8e79cdcc0bd2e670ed5c2b7ac", func := "loop.example/g01103/laws.FnSplits", spec := "fnSplits", apart := false, narrowed := true }
def FnSplitsUptoSaid : Prop := fnSplitsUptoRow.holds Try.pinned (OpenSpec.upto fnSplitsSpec)

/-- 'laws.FnCases', WHERE WHAT IT READS IS OF BULK AT MOST 1048576: true; the input reads as it did. -/
def fnCasesUptoRow : OpenClaim := { program := "ytjjjalkfpajckaa", sum := "aecc1eda5c0dfdb58d3dd555c5e249adcbeda4a8e79cdcc0bd2e670ed5c2b7ac", func := "loop.example/g01103/laws.FnCases", spec := "fnCases", unfollowed := true, recurses := true, apart := false, narrowed := true }
def FnCasesUptoSaid : Prop := fnCasesUptoRow.holds Try.pinned (OpenSpec.upto fnCasesSpec)

/-- 'laws.FnPrecedence', WHERE WHAT IT READS IS OF BULK AT MOST 1048576: true; the input reads as it did. -/
def fnPrecedenceUptoRow : OpenClaim := { program := "ytjjjalkfpajckaa", sum := "aecc1eda5c0dfdb58d3dd555c5e249adcbeda4a8e79cdcc0bd2e670ed5c2b7ac", func := "loop.example/g01103/laws.FnPrecedence", spec := "fnPrecedence", recurses := true, apart := false, narrowed := true }
def FnPrecedenceUptoSaid : Prop := fnPrecedenceUptoRow.holds Try.pinned (OpenSpec.upto fnPrecedenceSpec)

/-- 'laws.FnLastCost', WHERE WHAT IT READS IS OF BULK AT MOST 1048576: true; the input reads as it did. -/
def fnLastCostUptoRow : OpenClaim := { program := "ytjjjalkfpajckaa", sum := "aecc1eda5c0dfdb58d3dd555c5e249adcbeda4a8e79cdcc0bd2e670ed5c2b7ac", func := "loop.example/g01103/laws.FnLastCost", spec := "fnLastCost", unfollowed := true, recurses := true, apart := false, narrowed := true }
def FnLastCostUptoSaid : Prop := fnLastCostUptoRow.holds Try.pinned (OpenSpec.upto fnLastCostSpec)

/-- 'laws.FnFlows', WHERE WHAT IT READS IS OF BULK AT MOST 1048576: true; the input reads as it did. -/
def fnFlowsUptoRow : OpenClaim := { program := "ytjjjalkfpajckaa", sum := "aecc1eda5c0dfdb58d3dd555c5e249adcbeda4a8e79cdcc0bd2e670ed5c2b7ac", func := "loop.example/g01103/laws.FnFlows", spec := "fnFlows", unfollowed := true, recurses := true, apart := false, narrowed := true }
def FnFlowsUptoSaid : Prop := fnFlowsUptoRow.holds Try.pinned (OpenSpec.upto fnFlowsSpec)

/-- 'laws.FnAnomalies', WHERE WHAT IT READS IS OF BULK AT MOST 1048576: true; the input reads as it did. -/
def fnAnomaliesUptoRow : OpenClaim := { program := "ytjjjalkfpajckaa", sum := "aecc1eda5c0dfdb58d3dd555c5e249adcbeda4a8e79cdcc0bd2e670ed5c2b7ac", func := "loop.example/g01103/laws.FnAnomalies", spec := "fnAnomalies", unfollowed := true, recurses := true, apart := false, narrowed := true }
def FnAnomaliesUptoSaid : Prop := fnAnomaliesUptoRow.holds Try.pinned (OpenSpec.upto fnAnomaliesSpec)

/-- 'laws.FnPlans', WHERE WHAT IT READS IS OF BULK AT MOST 1048576: true; the input reads as it did. -/
def fnPlansUptoRow : OpenClaim := { program := "ytjjjalkfpajckaa", sum := "aecc1eda5c0dfdb58d3dd555c5e249adcbeda4a8e79cdcc0bd2e670ed5c2b7ac", func := "loop.example/g01103/laws.FnPlans", spec := "fnPlans", unfollowed := true, recurses := true, apart := false, narrowed := true }
def FnPlansUptoSaid : Prop := fnPlansUptoRow.holds Try.pinned (OpenSpec.upto fnPlansSpec)

/-- 'laws.FnSidney', WHERE WHAT IT READS IS OF BULK AT MOST 1048576: true; the input reads as it did. -/
def fnSidneyUptoRow : OpenClaim := { program := "ytjjjalkfpajckaa", sum := "aecc1eda5c0dfdb58d3dd555c5e249adcbeda4a8e79cdcc0bd2e670ed5c2b7ac", func := "loop.example/g01103/laws.FnSidney", spec := "fnSidney", unfollowed := true, recurses := true, apart := false, narrowed := true }
def FnSidneyUptoSaid : Prop := fnSidneyUptoRow.holds Try.pinned (OpenSpec.upto fnSidneySpec)

/-- 'laws.FnSeries', WHERE WHAT IT READS IS OF BULK AT MOST 1048576: true; the input reads as it did. -/
def fnSeriesUptoRow : OpenClaim := { program := "ytjjjalkfpajckaa", sum := "aecc1eda5c0dfdb58d3dd555c5e249adcbeda4a8e79cdcc0bd2e670ed5c2b7ac", func := "loop.example/g01103/laws.FnSeries", spec := "fnSeries", unfollowed := true, recurses := true, apart := false, narrowed := true }
def FnSeriesUptoSaid : Prop := fnSeriesUptoRow.holds Try.pinned (OpenSpec.upto fnSeriesSpec)

end Rows
end Go.Proofs.Ytjjjalkfpajckaa
