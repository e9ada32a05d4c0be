/-
  No cell of these rows narrows 'for every input' (looked for: loops, veiled, ifaces, maps, wideKeys, modest, calm, conditions, laid).
  DERIVED. THE GIVEN ROWS OF THIS SEAT. 12 by the template 'for every input the law returns true; each argument reads behind the call as it read before'; 0 by the template 'total and deterministic' (their statements: YtcmbjbddjlamaaaTotals.lean).
  GIVEN WITH THE SEED: the statements are not yours to turn. If you find one false, say at which input.
  Laid BY PROGRAM, IN A SANDBOX (cutbox-rows.mjs): the forced cells as the released guide's own fill.sh prints them over the translation ac8c2db43d52dd5e… (all of the seat's roots in one cut). By AI agents, Wed Nov 11 2026. No macro, syntax, notation, axiom, sorry.
-/
import Derived.Test.YtcmbjbddjlamaaaChecked
import GoSem.Claim
import GoSem.ClaimJoined
import GoSem.ClaimMapViews
import Derived.JoinedTies
import Derived.KernelRfl
namespace Go.Proofs.Ytcmbjbddjlamaaa
/- THE CELL 'sum', in the pinned program and in every row, IS THE sha256 OF THE DUMP (.gsa) THAT YtcmbjbddjlamaaaProg.lean LOADS. Nothing in Lean hashes anything: it is a label: what it is worth is what the hold of that sum in a sandbox is worth. -/
noncomputable def Try.pinned : Pinned := { name := "ytcmbjbddjlamaaa", sum := "ac8c2db43d52dd5e95c9c3a48e8ec1d2cfdab0cc59b1c015d16b7957e37b3b09", checked := Try.checked }
namespace Rows
def none {H : Type} : Left H := { results := [], args := [] }

/-- 'laws.FnRuledOrders': WHATEVER THE INPUT: true; the input reads as it did. -/
def fnRuledOrdersSpec : ChangeSpec := { name := "fnRuledOrders", fn := fun _ => fun
  | [d] => { results := [.lit (.bool true)], args := [d] }
  | _ => none }
def fnRuledOrdersRow : OpenClaim := { program := "ytcmbjbddjlamaaa", sum := "ac8c2db43d52dd5e95c9c3a48e8ec1d2cfdab0cc59b1c015d16b7957e37b3b09", func := "loop.example/g01103/laws.FnRuledOrders", spec := "fnRuledOrders", unfollowed := true, recurses := true, apart := false }
def FnRuledOrdersSaid : Prop := fnRuledOrdersRow.holds Try.pinned (OpenSpec.ofChange fnRuledOrdersSpec)

/-- ITS FALSE NEIGHBOUR: 'it returns false'. Refute it at one input. -/
def fnRuledOrdersWrong : ChangeSpec := { name := "fnRuledOrders", fn := fun _ => fun
  | [d] => { results := [.lit (.bool false)], args := [d] }
  | _ => none }
def FnRuledOrdersWrongFalsely : Prop := fnRuledOrdersRow.holds Try.pinned (OpenSpec.ofChange fnRuledOrdersWrong)

/-- 'laws.FnLatenessProof': WHATEVER THE INPUT: true; the input reads as it did. -/
def fnLatenessProofSpec : ChangeSpec := { name := "fnLatenessProof", fn := fun _ => fun
  | [d] => { results := [.lit (.bool true)], args := [d] }
  | _ => none }
def fnLatenessProofRow : OpenClaim := { program := "ytcmbjbddjlamaaa", sum := "ac8c2db43d52dd5e95c9c3a48e8ec1d2cfdab0cc59b1c015d16b7957e37b3b09", func := "loop.example/g01103/laws.FnLatenessProof", spec := "fnLatenessProof", unfollowed := true, recurses := true, apart := false }
def FnLatenessProofSaid : Prop := fnLatenessProofRow.holds Try.pinned (OpenSpec.ofChange fnLatenessProofSpec)

/-- ITS FALSE NEIGHBOUR: 'it returns false'. Refute it at one input. -/
def fnLatenessProofWrong : ChangeSpec := { name := "fnLatenessProof", fn := fun _ => fun
  | [d] => { results := [.lit (.bool false)], args := [d] }
  | _ => none }
def FnLatenessProofWrongFalsely : Prop := fnLatenessProofRow.holds Try.pinned (OpenSpec.ofChange fnLatenessProofWrong)

/-- 'laws.FnLateRule': WHATEVER THE INPUT: true; the input reads as it did. -/
def fnLateRuleSpec : ChangeSpec := { name := "fnLateRule", fn := fun _ => fun
  | [d] => { results := [.lit (.bool true)], args := [d] }
  | _ => none }
def fnLateRuleRow : OpenClaim := { program := "ytcmbjbddjlamaaa", sum := "ac8c2db43d52dd5e95c9c3a48e8ec1d2cfdab0cc59b1c015d16b7957e37b3b09", func := "loop.example/g01103/laws.FnLateRule", spec := "fnLateRule", unfollowed := true, recurses := true, apart := false }
def FnLateRuleSaid : Prop := fnLateRuleRow.holds Try.pinned (OpenSpec.ofChange fnLateRuleSpec)

/-- ITS FALSE NEIGHBOUR: 'it returns false'. Refute it at one input. -/
def fnLateRuleWrong : ChangeSpec := { name := "fnLateRule", fn := fun _ => fun
  | [d] => { results := [.lit (.bool false)], args := [d] }
  | _ => none }
def FnLateRuleWrongFalsely : Prop := fnLateRuleRow.holds Try.pinned (OpenSpec.ofChange fnLateRuleWrong)

/-- 'laws.FnComesBefore': WHATEVER THE INPUT: true; the input reads as it did. -/
def fnComesBeforeSpec : ChangeSpec := { name := "fnComesBefore", fn := fun _ => fun
  | [d] => { results := [.lit (.bool true)], args := [d] }
  | _ => none }
def fnComesBeforeRow : OpenClaim := { program := "ytcmbjbddjlamaaa", sum := "ac8c2db43d52dd5e95c9c3a48e8ec1d2cfdab0cc59b1c015d16b7957e37b3b09", func := "loop.example/g01103/laws.FnComesBefore", spec := "fnComesBefore", unfollowed := true, recurses := true, apart := false }
def FnComesBeforeSaid : Prop := fnComesBeforeRow.holds Try.pinned (OpenSpec.ofChange fnComesBeforeSpec)

/-- ITS FALSE NEIGHBOUR: 'it returns false'. Refute it at one input. -/
def fnComesBeforeWrong : ChangeSpec := { name := "fnComesBefore", fn := fun _ => fun
  | [d] => { results := [.lit (.bool false)], args := [d] }
  | _ => none }
def FnComesBeforeWrongFalsely : Prop := fnComesBeforeRow.holds Try.pinned (OpenSpec.ofChange fnComesBeforeWrong)

/-- 'laws.FnFronts': WHATEVER THE INPUT: true; the input reads as it did. -/
def fnFrontsSpec : ChangeSpec := { name := "fnFronts", fn := fun _ => fun
  | [d] => { results := [.lit (.bool true)], args := [d] }
  | _ => none }
def fnFrontsRow : OpenClaim := { program := "ytcmbjbddjlamaaa", sum := "ac8c2db43d52dd5e95c9c3a48e8ec1d2cfdab0cc59b1c015d16b7957e37b3b09", func := "loop.example/g01103/laws.FnFronts", spec := "fnFronts", unfollowed := true, recurses := true, apart := false }
def FnFrontsSaid : Prop := fnFrontsRow.holds Try.pinned (OpenSpec.ofChange fnFrontsSpec)

/-- ITS FALSE NEIGHBOUR: 'it returns false'. Refute it at one input. -/
def fnFrontsWrong : ChangeSpec := { name := "fnFronts", fn := fun _ => fun
  | [d] => { results := [.lit (.bool false)], args := [d] }
  | _ => none }
def FnFrontsWrongFalsely : Prop := fnFrontsRow.holds Try.pinned (OpenSpec.ofChange fnFrontsWrong)

/-- 'laws.FnMixtures': WHATEVER THE INPUT: true; the input reads as it did. -/
def fnMixturesSpec : ChangeSpec := { name := "fnMixtures", fn := fun _ => fun
  | [d] => { results := [.lit (.bool true)], args := [d] }
  | _ => none }
def fnMixturesRow : OpenClaim := { program := "ytcmbjbddjlamaaa", sum := "ac8c2db43d52dd5e95c9c3a48e8ec1d2cfdab0cc59b1c015d16b7957e37b3b09", func := "loop.example/g01103/laws.FnMixtures", spec := "fnMixtures", unfollowed := true, recurses := true, apart := false }
def FnMixturesSaid : Prop := fnMixturesRow.holds Try.pinned (OpenSpec.ofChange fnMixturesSpec)

/-- ITS FALSE NEIGHBOUR: 'it returns false'. Refute it at one input. -/
def fnMixturesWrong : ChangeSpec := { name := "fnMixtures", fn := fun _ => fun
  | [d] => { results := [.lit (.bool false)], args := [d] }
  | _ => none }
def FnMixturesWrongFalsely : Prop := fnMixturesRow.holds Try.pinned (OpenSpec.ofChange fnMixturesWrong)

/-- 'laws.FnLatenessFront': WHATEVER THE INPUT: true; the input reads as it did. -/
def fnLatenessFrontSpec : ChangeSpec := { name := "fnLatenessFront", fn := fun _ => fun
  | [d] => { results := [.lit (.bool true)], args := [d] }
  | _ => none }
def fnLatenessFrontRow : OpenClaim := { program := "ytcmbjbddjlamaaa", sum := "ac8c2db43d52dd5e95c9c3a48e8ec1d2cfdab0cc59b1c015d16b7957e37b3b09", func := "loop.example/g01103/laws.FnLatenessFront", spec := "fnLatenessFront", unfollowed := true, recurses := true, apart := false }
def FnLatenessFrontSaid : Prop := fnLatenessFrontRow.holds Try.pinned (OpenSpec.ofChange fnLatenessFrontSpec)

/-- ITS FALSE NEIGHBOUR: 'it returns false'. Refute it at one input. -/
def fnLatenessFrontWrong : ChangeSpec := { name := "fnLatenessFront", fn := fun _ => fun
  | [d] => { results := [.lit (.bool false)], args := [d] }
  | _ => none }
def FnLatenessFrontWrongFalsely : Prop := fnLatenessFrontRow.holds Try.pinned (OpenSpec.ofChange fnLatenessFrontWrong)

/-- 'laws.FnVectors': WHATEVER THE INPUT: true; the input reads as it did. -/
def fnVectorsSpec : ChangeSpec := { name := "fnVectors", fn := fun _ => fun
  | [d] => { results := [.lit (.bool true)], args := [d] }
  | _ => none }
def fnVectorsRow : OpenClaim := { program := "ytcmbjbddjlamaaa", sum := "ac8c2db43d52dd5e95c9c3a48e8ec1d2cfdab0cc59b1c015d16b7957e37b3b09", func := "loop.example/g01103/laws.FnVectors", spec := "fnVectors", unfollowed := true, recurses := true, apart := false }
def FnVectorsSaid : Prop := fnVectorsRow.holds Try.pinned (OpenSpec.ofChange fnVectorsSpec)

/-- ITS FALSE NEIGHBOUR: 'it returns false'. Refute it at one input. -/
def fnVectorsWrong : ChangeSpec := { name := "fnVectors", fn := fun _ => fun
  | [d] => { results := [.lit (.bool false)], args := [d] }
  | _ => none }
def FnVectorsWrongFalsely : Prop := fnVectorsRow.holds Try.pinned (OpenSpec.ofChange fnVectorsWrong)

/-- 'laws.FnTimely': WHATEVER THE INPUT: true; the input reads as it did. -/
def fnTimelySpec : ChangeSpec := { name := "fnTimely", fn := fun _ => fun
  | [d] => { results := [.lit (.bool true)], args := [d] }
  | _ => none }
def fnTimelyRow : OpenClaim := { program := "ytcmbjbddjlamaaa", sum := "ac8c2db43d52dd5e95c9c3a48e8ec1d2cfdab0cc59b1c015d16b7957e37b3b09", func := "loop.example/g01103/laws.FnTimely", spec := "fnTimely", unfollowed := true, recurses := true, apart := false }
def FnTimelySaid : Prop := fnTimelyRow.holds Try.pinned (OpenSpec.ofChange fnTimelySpec)

/-- ITS FALSE NEIGHBOUR: 'it returns false'. Refute it at one input. -/
def fnTimelyWrong : ChangeSpec := { name := "fnTimely", fn := fun _ => fun
  | [d] => { results := [.lit (.bool false)], args := [d] }
  | _ => none }
def FnTimelyWrongFalsely : Prop := fnTimelyRow.holds Try.pinned (OpenSpec.ofChange fnTimelyWrong)

/-- 'laws.FnUnitJobs': WHATEVER THE INPUT: true; the input reads as it did. -/
def fnUnitJobsSpec : ChangeSpec := { name := "fnUnitJobs", fn := fun _ => fun
  | [d] => { results := [.lit (.bool true)], args := [d] }
  | _ => none }
def fnUnitJobsRow : OpenClaim := { program := "ytcmbjbddjlamaaa", sum := "ac8c2db43d52dd5e95c9c3a48e8ec1d2cfdab0cc59b1c015d16b7957e37b3b09", func := "loop.example/g01103/laws.FnUnitJobs", spec := "fnUnitJobs", unfollowed := true, recurses := true, apart := false }
def FnUnitJobsSaid : Prop := fnUnitJobsRow.holds Try.pinned (OpenSpec.ofChange fnUnitJobsSpec)

/-- ITS FALSE NEIGHBOUR: 'it returns false'. Refute it at one input. -/
def fnUnitJobsWrong : ChangeSpec := { name := "fnUnitJobs", fn := fun _ => fun
  | [d] => { results := [.lit (.bool false)], args := [d] }
  | _ => none }
def FnUnitJobsWrongFalsely : Prop := fnUnitJobsRow.holds Try.pinned (OpenSpec.ofChange fnUnitJobsWrong)

/-- 'laws.FnTardiness': WHATEVER THE INPUT: true; the input reads as it did. -/
def fnTardinessSpec : ChangeSpec := { name := "fnTardiness", fn := fun _ => fun
  | [d] => { results := [.lit (.bool true)], args := [d] }
  | _ => none }
def fnTardinessRow : OpenClaim := { program := "ytcmbjbddjlamaaa", sum := "ac8c2db43d52dd5e95c9c3a48e8ec1d2cfdab0cc59b1c015d16b7957e37b3b09", func := "loop.example/g01103/laws.FnTardiness", spec := "fnTardiness", unfollowed := true, recurses := true, apart := false }
def FnTardinessSaid : Prop := fnTardinessRow.holds Try.pinned (OpenSpec.ofChange fnTardinessSpec)

/-- ITS FALSE NEIGHBOUR: 'it returns false'. Refute it at one input. -/
def fnTardinessWrong : ChangeSpec := { name := "fnTardiness", fn := fun _ => fun
  | [d] => { results := [.lit (.bool false)], args := [d] }
  | _ => none }
def FnTardinessWrongFalsely : Prop := fnTardinessRow.holds Try.pinned (OpenSpec.ofChange fnTardinessWrong)

/-- 'laws.FnGreedyOrder': WHATEVER THE INPUT: true; the input reads as it did. -/
def fnGreedyOrderSpec : ChangeSpec := { name := "fnGreedyOrder", fn := fun _ => fun
  | [d] => { results := [.lit (.bool true)], args := [d] }
  | _ => none }
def fnGreedyOrderRow : OpenClaim := { program := "ytcmbjbddjlamaaa", sum := "ac8c2db43d52dd5e95c9c3a48e8ec1d2cfdab0cc59b1c015d16b7957e37b3b09", func := "loop.example/g01103/laws.FnGreedyOrder", spec := "fnGreedyOrder", unfollowed := true, recurses := true, apart := false }
def FnGreedyOrderSaid : Prop := fnGreedyOrderRow.holds Try.pinned (OpenSpec.ofChange fnGreedyOrderSpec)

/-- ITS FALSE NEIGHBOUR: 'it returns false'. Refute it at one input. -/
def fnGreedyOrderWrong : ChangeSpec := { name := "fnGreedyOrder", fn := fun _ => fun
  | [d] => { results := [.lit (.bool false)], args := [d] }
  | _ => none }
def FnGreedyOrderWrongFalsely : Prop := fnGreedyOrderRow.holds Try.pinned (OpenSpec.ofChange fnGreedyOrderWrong)

/- THE SECOND FORM. 'bulk': how many values and letters a reading holds, each counted each time it is reached (what is shared counts as often as it is met; a slice's spare places count too). A statement '..UptoSaid' is the law's where the arguments, and the package variables that the reading takes, are together of bulk at most 1048576: NARROWER than '..Said'. Prove '..Said' where nothing that the law and all that it calls make is longer than what came in: it says more and counts as full. Else prove '..UptoSaid'. A law counts once. -/
mutual
def uptoBulk {H : Type} : DataW H → Nat
  | .lit (.string bytes) => bytes.length + 1
  | .lit _ => 1
  | .nil => 1
  | .ptr d => uptoBulk d + 1
  | .slice elems spare => uptoBulkAll elems + uptoBulkAll spare + 1
  | .agg parts => uptoBulkAll parts + 1
  | .iface _ d => uptoBulk d + 1
  | .map entries => uptoBulkEntries entries + 1
  | .held _ => 1
def uptoBulkAll {H : Type} : List (DataW H) → Nat
  | [] => 0
  | d :: r => uptoBulk d + uptoBulkAll r
def uptoBulkEntries {H : Type} : List (Lit × DataW H) → Nat
  | [] => 0
  | x :: r => uptoBulkEntry x + uptoBulkEntries r
def uptoBulkEntry {H : Type} : Lit × DataW H → Nat
  | (.string bytes, d) => bytes.length + uptoBulk d + 1
  | (_, d) => uptoBulk d + 1
 end
def uptoSmall : (H : Type) → List (DataW H) → Bool := fun _ ds => decide (uptoBulkAll ds ≤ 1048576)
def OpenSpec.upto (s : _root_.Go.ChangeSpec) : _root_.Go.OpenSpec := { _root_.Go.OpenSpec.ofChange s with cond := some uptoSmall }

/-- 'laws.FnRuledOrders', WHERE WHAT IT READS IS OF BULK AT MOST 1048576: true; the input reads as it did. -/
def fnRuledOrdersUptoRow : OpenClaim := { program := "ytcmbjbddjlamaaa", sum := "ac8c2db43d52dd5e95c9c3a48e8ec1d2cfdab0cc59b1c015d16b7957e37b3b09", func := "loop.example/g01103/laws.FnRuledOrders", spec := "fnRuledOrders", unfollowed := true, recurses := true, apart := false, narrowed := true }
def FnRuledOrdersUptoSaid : Prop := fnRuledOrdersUptoRow.holds Try.pinned (OpenSpec.upto fnRuledOrdersSpec)

/-- 'laws.FnLatenessProof', WHERE WHAT IT READS IS OF BULK AT MOST 1048576: true; the input reads as it did. -/
def fnLatenessProofUptoRow : OpenClaim := { program := "ytcmbjbddjlamaaa", sum := "ac8c2db43d52dd5e95c9c3a48e8ec1d2cfdab0cc59b1c015d16b7957e37b3b09", func := "loop.example/g01103/laws.FnLatenessProof", spec := "fnLatenessProof", unfollowed := true, recurses := true, apart := false, narrowed := true }
def FnLatenessProofUptoSaid : Prop := fnLatenessProofUptoRow.holds Try.pinned (OpenSpec.upto fnLatenessProofSpec)

/-- 'laws.FnLateRule', WHERE WHAT IT READS IS OF BULK AT MOST 1048576: true; the input reads as it did. -/
def fnLateRuleUptoRow : OpenClaim := { program := "ytcmbjbddjlamaaa", sum := "ac8c2db43d52dd5e95c9c3a48e8ec1d2cfdab0cc59b1c015d16b7957e37b3b09", func := "loop.example/g01103/laws.FnLateRule", spec := "fnLateRule", unfollowed := true, recurses := true, apart := false, narrowed := true }
def FnLateRuleUptoSaid : Prop := fnLateRuleUptoRow.holds Try.pinned (OpenSpec.upto fnLateRuleSpec)

/-- 'laws.FnComesBefore', WHERE WHAT IT READS IS OF BULK AT MOST 1048576: true; the input reads as it did. -/
def fnComesBeforeUptoRow : OpenClaim := { program := "ytcmbjbddjlamaaa", sum := "ac8c2db43d52dd5e95c9c3a48e8ec1d2cfdab0cc59b1c015d16b7957e37b3b09", func := "loop.example/g01103/laws.FnComesBefore", spec := "fnComesBefore", unfollowed := true, recurses := true, apart := false, narrowed := true }
def FnComesBeforeUptoSaid : Prop := fnComesBeforeUptoRow.holds Try.pinned (OpenSpec.upto fnComesBeforeSpec)

/-- 'laws.FnFronts', WHERE WHAT IT READS IS OF BULK AT MOST 1048576: true; the input reads as it did. -/
def fnFrontsUptoRow : OpenClaim := { program := "ytcmbjbddjlamaaa", sum := "ac8c2db43d52dd5e95c9c3a48e8ec1d2cfdab0cc59b1c015d16b7957e37b3b09", func := "loop.example/g01103/laws.FnFronts", spec := "fnFronts", unfollowed := true, recurses := true, apart := false, narrowed := true }
def FnFrontsUptoSaid : Prop := fnFrontsUptoRow.holds Try.pinned (OpenSpec.upto fnFrontsSpec)

/-- 'laws.FnMixtures', WHERE WHAT IT READS IS OF BULK AT MOST 1048576: true; the input reads as it did. -/
def fnMixturesUptoRow : OpenClaim := { program := "ytcmbjbddjlamaaa", sum := "ac8c2db43d52dd5e95c9c3a48e8ec1d2cfdab0cc59b1c015d16b7957e37b3b09", func := "loop.example/g01103/laws.FnMixtures", spec := "fnMixtures", unfollowed := true, recurses := true, apart := false, narrowed := true }
def FnMixturesUptoSaid : Prop := fnMixturesUptoRow.holds Try.pinned (OpenSpec.upto fnMixturesSpec)

/-- 'laws.FnLatenessFront', WHERE WHAT IT READS IS OF BULK AT MOST 1048576: true; the input reads as it did. -/
def fnLatenessFrontUptoRow : OpenClaim := { program := "ytcmbjbddjlamaaa", sum := "ac8c2db43d52dd5e95c9c3a48e8ec1d2cfdab0cc59b1c015d16b7957e37b3b09", func := "loop.example/g01103/laws.FnLatenessFront", spec := "fnLatenessFront", unfollowed := true, recurses := true, apart := false, narrowed := true }
def FnLatenessFrontUptoSaid : Prop := fnLatenessFrontUptoRow.holds Try.pinned (OpenSpec.upto fnLatenessFrontSpec)

/-- 'laws.FnVectors', WHERE WHAT IT READS IS OF BULK AT MOST 1048576: true; the input reads as it did. -/
def fnVectorsUptoRow : OpenClaim := { program := "ytcmbjbddjlamaaa", sum := "ac8c2db43d52dd5e95c9c3a48e8ec1d2cfdab0cc59b1c015d16b7957e37b3b09", func := "loop.example/g01103/laws.FnVectors", spec := "fnVectors", unfollowed := true, recurses := true, apart := false, narrowed := true }
def FnVectorsUptoSaid : Prop := fnVectorsUptoRow.holds Try.pinned (OpenSpec.upto fnVectorsSpec)

/-- 'laws.FnTimely', WHERE WHAT IT READS IS OF BULK AT MOST 1048576: true; the input reads as it did. -/
def fnTimelyUptoRow : OpenClaim := { program := "ytcmbjbddjlamaaa", sum := "ac8c2db43d52dd5e95c9c3a48e8ec1d2cfdab0cc59b1c015d16b7957e37b3b09", func := "loop.example/g01103/laws.FnTimely", spec := "fnTimely", unfollowed := true, recurses := true, apart := false, narrowed := true }
def FnTimelyUptoSaid : Prop := fnTimelyUptoRow.holds Try.pinned (OpenSpec.upto fnTimelySpec)

/-- 'laws.FnUnitJobs', WHERE WHAT IT READS IS OF BULK AT MOST 1048576: true; the input reads as it did. -/
def fnUnitJobsUptoRow : OpenClaim := { program := "ytcmbjbddjlamaaa", sum := "ac8c2db43d52dd5e95c9c3a48e8ec1d2cfdab0cc59b1c015d16b7957e37b3b09", func := "loop.example/g01103/laws.FnUnitJobs", spec := "fnUnitJobs", unfollowed := true, recurses := true, apart := false, narrowed := true }
def FnUnitJobsUptoSaid : Prop := fnUnitJobsUptoRow.holds Try.pinned (OpenSpec.upto fnUnitJobsSpec)

/-- 'laws.FnTardiness', WHERE WHAT IT READS IS OF BULK AT MOST 1048576: true; the input reads as it did. -/
def fnTardinessUptoRow : OpenClaim := { program := "ytcmbjbddjlamaaa", sum := "ac8c2db43d52dd5e95c9c3a48e8ec1d2cfdab0cc59b1c015d16b7957e37b3b09", func := "loop.example/g01103/laws.FnTardiness", spec := "fnTardiness", unfollowed := true, recurses := true, apart := false, narrowed := true }
def FnTardinessUptoSaid : Prop := fnTardinessUptoRow.holds Try.pinned (OpenSpec.upto fnTardinessSpec)

/-- 'laws.FnGreedyOrder', WHERE WHAT IT READS IS OF BULK AT MOST 1048576: true; the input reads as it did. -/
def fnGreedyOrderUptoRow : OpenClaim := { program := "ytcmbjbddjlamaaa", sum := "ac8c2db43d52dd5e95c9c3a48e8ec1d2cfdab0cc59b1c015d16b7957e37b3b09", func := "loop.example/g01103/laws.FnGreedyOrder", spec := "fnGreedyOrder", unfollowed := true, recurses := true, apart := false, narrowed := true }
def FnGreedyOrderUptoSaid : Prop := fnGreedyOrderUptoRow.holds Try.pinned (OpenSpec.upto fnGreedyOrderSpec)

end Rows
end Go.Proofs.Ytcmbjbddjlamaaa
