/-
  No cell of these rows narrows 'for every input' (looked for: loops, veiled, ifaces, maps, wideKeys, modest, calm, conditions, laid).
  DERIVED. THE GIVEN ROWS OF THIS SEAT. 12 by the template 'for every input the law returns true; each argument reads behind the call as it read before'; 0 by the template 'total and deterministic' (their statements: YtlieeolnnehncaaTotals.lean).
  GIVEN WITH THE SEED: the statements are not yours to turn. If you find one false, say at which input.
  Laid BY PROGRAM, IN A SANDBOX (cutbox-rows.mjs): the forced cells as the released guide's own fill.sh prints them over the translation b70e27245a910e63… (all of the seat's roots in one cut). By AI agents, Wed Nov 11 2026. No macro, syntax, notation, axiom, sorry.
-/
import Derived.Test.YtlieeolnnehncaaChecked
import GoSem.Claim
import GoSem.ClaimJoined
import GoSem.ClaimMapViews
import Derived.JoinedTies
import Derived.KernelRfl
namespace Go.Proofs.Ytlieeolnnehncaa
/- THE CELL 'sum', in the pinned program and in every row, IS THE sha256 OF THE DUMP (.gsa) THAT YtlieeolnnehncaaProg.lean LOADS. Nothing in Lean hashes anything: it is a label: what it is worth is what the hold of that sum in a sandbox is worth. -/
noncomputable def Try.pinned : Pinned := { name := "ytlieeolnnehncaa", sum := "b70e27245a910e636409fd7ab5f812df194530835eccf77943e623f29b0dfe69", checked := Try.checked }
namespace Rows
def none {H : Type} : Left H := { results := [], args := [] }

/-- 'laws.FnExactHeadsOf': WHATEVER THE INPUT: true; the input reads as it did. -/
def fnExactHeadsOfSpec : ChangeSpec := { name := "fnExactHeadsOf", fn := fun _ => fun
  | [d1, d2] => { results := [.lit (.bool true)], args := [d1, d2] }
  | _ => none }
def fnExactHeadsOfRow : OpenClaim := { program := "ytlieeolnnehncaa", sum := "b70e27245a910e636409fd7ab5f812df194530835eccf77943e623f29b0dfe69", func := "loop.example/g01103/laws.FnExactHeadsOf", spec := "fnExactHeadsOf", unfollowed := true, recurses := true, apart := false }
def FnExactHeadsOfSaid : Prop := fnExactHeadsOfRow.holds Try.pinned (OpenSpec.ofChange fnExactHeadsOfSpec)

/-- ITS FALSE NEIGHBOUR: 'it returns false'. Refute it at one input. -/
def fnExactHeadsOfWrong : ChangeSpec := { name := "fnExactHeadsOf", fn := fun _ => fun
  | [d1, d2] => { results := [.lit (.bool false)], args := [d1, d2] }
  | _ => none }
def FnExactHeadsOfWrongFalsely : Prop := fnExactHeadsOfRow.holds Try.pinned (OpenSpec.ofChange fnExactHeadsOfWrong)

/-- 'laws.FnExactOpTails': WHATEVER THE INPUT: true; the input reads as it did. -/
def fnExactOpTailsSpec : ChangeSpec := { name := "fnExactOpTails", fn := fun _ => fun
  | [d1, d2] => { results := [.lit (.bool true)], args := [d1, d2] }
  | _ => none }
def fnExactOpTailsRow : OpenClaim := { program := "ytlieeolnnehncaa", sum := "b70e27245a910e636409fd7ab5f812df194530835eccf77943e623f29b0dfe69", func := "loop.example/g01103/laws.FnExactOpTails", spec := "fnExactOpTails", unfollowed := true, recurses := true, apart := false }
def FnExactOpTailsSaid : Prop := fnExactOpTailsRow.holds Try.pinned (OpenSpec.ofChange fnExactOpTailsSpec)

/-- ITS FALSE NEIGHBOUR: 'it returns false'. Refute it at one input. -/
def fnExactOpTailsWrong : ChangeSpec := { name := "fnExactOpTails", fn := fun _ => fun
  | [d1, d2] => { results := [.lit (.bool false)], args := [d1, d2] }
  | _ => none }
def FnExactOpTailsWrongFalsely : Prop := fnExactOpTailsRow.holds Try.pinned (OpenSpec.ofChange fnExactOpTailsWrong)

/-- 'laws.FnExactShopLength': WHATEVER THE INPUT: true; the input reads as it did. -/
def fnExactShopLengthSpec : ChangeSpec := { name := "fnExactShopLength", fn := fun _ => fun
  | [d1, d2] => { results := [.lit (.bool true)], args := [d1, d2] }
  | _ => none }
def fnExactShopLengthRow : OpenClaim := { program := "ytlieeolnnehncaa", sum := "b70e27245a910e636409fd7ab5f812df194530835eccf77943e623f29b0dfe69", func := "loop.example/g01103/laws.FnExactShopLength", spec := "fnExactShopLength", unfollowed := true, recurses := true, apart := false }
def FnExactShopLengthSaid : Prop := fnExactShopLengthRow.holds Try.pinned (OpenSpec.ofChange fnExactShopLengthSpec)

/-- ITS FALSE NEIGHBOUR: 'it returns false'. Refute it at one input. -/
def fnExactShopLengthWrong : ChangeSpec := { name := "fnExactShopLength", fn := fun _ => fun
  | [d1, d2] => { results := [.lit (.bool false)], args := [d1, d2] }
  | _ => none }
def FnExactShopLengthWrongFalsely : Prop := fnExactShopLengthRow.holds Try.pinned (OpenSpec.ofChange fnExactShopLengthWrong)

/-- 'laws.FnExactSwapOps': WHATEVER THE INPUT: true; the input reads as it did. -/
def fnExactSwapOpsSpec : ChangeSpec := { name := "fnExactSwapOps", fn := fun _ => fun
  | [d1, d2, d3, d4] => { results := [.lit (.bool true)], args := [d1, d2, d3, d4] }
  | _ => none }
def fnExactSwapOpsRow : OpenClaim := { program := "ytlieeolnnehncaa", sum := "b70e27245a910e636409fd7ab5f812df194530835eccf77943e623f29b0dfe69", func := "loop.example/g01103/laws.FnExactSwapOps", spec := "fnExactSwapOps", unfollowed := true, recurses := true, apart := false }
def FnExactSwapOpsSaid : Prop := fnExactSwapOpsRow.holds Try.pinned (OpenSpec.ofChange fnExactSwapOpsSpec)

/-- ITS FALSE NEIGHBOUR: 'it returns false'. Refute it at one input. -/
def fnExactSwapOpsWrong : ChangeSpec := { name := "fnExactSwapOps", fn := fun _ => fun
  | [d1, d2, d3, d4] => { results := [.lit (.bool false)], args := [d1, d2, d3, d4] }
  | _ => none }
def FnExactSwapOpsWrongFalsely : Prop := fnExactSwapOpsRow.holds Try.pinned (OpenSpec.ofChange fnExactSwapOpsWrong)

/-- 'laws.FnExactCriticalPath': WHATEVER THE INPUT: true; the input reads as it did. -/
def fnExactCriticalPathSpec : ChangeSpec := { name := "fnExactCriticalPath", fn := fun _ => fun
  | [d1, d2] => { results := [.lit (.bool true)], args := [d1, d2] }
  | _ => none }
def fnExactCriticalPathRow : OpenClaim := { program := "ytlieeolnnehncaa", sum := "b70e27245a910e636409fd7ab5f812df194530835eccf77943e623f29b0dfe69", func := "loop.example/g01103/laws.FnExactCriticalPath", spec := "fnExactCriticalPath", unfollowed := true, recurses := true, apart := false }
def FnExactCriticalPathSaid : Prop := fnExactCriticalPathRow.holds Try.pinned (OpenSpec.ofChange fnExactCriticalPathSpec)

/-- ITS FALSE NEIGHBOUR: 'it returns false'. Refute it at one input. -/
def fnExactCriticalPathWrong : ChangeSpec := { name := "fnExactCriticalPath", fn := fun _ => fun
  | [d1, d2] => { results := [.lit (.bool false)], args := [d1, d2] }
  | _ => none }
def FnExactCriticalPathWrongFalsely : Prop := fnExactCriticalPathRow.holds Try.pinned (OpenSpec.ofChange fnExactCriticalPathWrong)

/-- 'laws.FnExactCriticalSwaps': WHATEVER THE INPUT: true; the input reads as it did. -/
def fnExactCriticalSwapsSpec : ChangeSpec := { name := "fnExactCriticalSwaps", fn := fun _ => fun
  | [d1, d2] => { results := [.lit (.bool true)], args := [d1, d2] }
  | _ => none }
def fnExactCriticalSwapsRow : OpenClaim := { program := "ytlieeolnnehncaa", sum := "b70e27245a910e636409fd7ab5f812df194530835eccf77943e623f29b0dfe69", func := "loop.example/g01103/laws.FnExactCriticalSwaps", spec := "fnExactCriticalSwaps", unfollowed := true, recurses := true, apart := false }
def FnExactCriticalSwapsSaid : Prop := fnExactCriticalSwapsRow.holds Try.pinned (OpenSpec.ofChange fnExactCriticalSwapsSpec)

/-- ITS FALSE NEIGHBOUR: 'it returns false'. Refute it at one input. -/
def fnExactCriticalSwapsWrong : ChangeSpec := { name := "fnExactCriticalSwaps", fn := fun _ => fun
  | [d1, d2] => { results := [.lit (.bool false)], args := [d1, d2] }
  | _ => none }
def FnExactCriticalSwapsWrongFalsely : Prop := fnExactCriticalSwapsRow.holds Try.pinned (OpenSpec.ofChange fnExactCriticalSwapsWrong)

/-- 'laws.FnExactLeavesBlocks': WHATEVER THE INPUT: true; the input reads as it did. -/
def fnExactLeavesBlocksSpec : ChangeSpec := { name := "fnExactLeavesBlocks", fn := fun _ => fun
  | [d1, d2, d3] => { results := [.lit (.bool true)], args := [d1, d2, d3] }
  | _ => none }
def fnExactLeavesBlocksRow : OpenClaim := { program := "ytlieeolnnehncaa", sum := "b70e27245a910e636409fd7ab5f812df194530835eccf77943e623f29b0dfe69", func := "loop.example/g01103/laws.FnExactLeavesBlocks", spec := "fnExactLeavesBlocks", unfollowed := true, recurses := true, apart := false }
def FnExactLeavesBlocksSaid : Prop := fnExactLeavesBlocksRow.holds Try.pinned (OpenSpec.ofChange fnExactLeavesBlocksSpec)

/-- ITS FALSE NEIGHBOUR: 'it returns false'. Refute it at one input. -/
def fnExactLeavesBlocksWrong : ChangeSpec := { name := "fnExactLeavesBlocks", fn := fun _ => fun
  | [d1, d2, d3] => { results := [.lit (.bool false)], args := [d1, d2, d3] }
  | _ => none }
def FnExactLeavesBlocksWrongFalsely : Prop := fnExactLeavesBlocksRow.holds Try.pinned (OpenSpec.ofChange fnExactLeavesBlocksWrong)

/-- 'laws.FnExactCriticalBlocks': WHATEVER THE INPUT: true; the input reads as it did. -/
def fnExactCriticalBlocksSpec : ChangeSpec := { name := "fnExactCriticalBlocks", fn := fun _ => fun
  | [d1, d2] => { results := [.lit (.bool true)], args := [d1, d2] }
  | _ => none }
def fnExactCriticalBlocksRow : OpenClaim := { program := "ytlieeolnnehncaa", sum := "b70e27245a910e636409fd7ab5f812df194530835eccf77943e623f29b0dfe69", func := "loop.example/g01103/laws.FnExactCriticalBlocks", spec := "fnExactCriticalBlocks", unfollowed := true, recurses := true, apart := false }
def FnExactCriticalBlocksSaid : Prop := fnExactCriticalBlocksRow.holds Try.pinned (OpenSpec.ofChange fnExactCriticalBlocksSpec)

/-- ITS FALSE NEIGHBOUR: 'it returns false'. Refute it at one input. -/
def fnExactCriticalBlocksWrong : ChangeSpec := { name := "fnExactCriticalBlocks", fn := fun _ => fun
  | [d1, d2] => { results := [.lit (.bool false)], args := [d1, d2] }
  | _ => none }
def FnExactCriticalBlocksWrongFalsely : Prop := fnExactCriticalBlocksRow.holds Try.pinned (OpenSpec.ofChange fnExactCriticalBlocksWrong)

/-- 'laws.FnExactBestSelection': WHATEVER THE INPUT: true; the input reads as it did. -/
def fnExactBestSelectionSpec : ChangeSpec := { name := "fnExactBestSelection", fn := fun _ => fun
  | [d] => { results := [.lit (.bool true)], args := [d] }
  | _ => none }
def fnExactBestSelectionRow : OpenClaim := { program := "ytlieeolnnehncaa", sum := "b70e27245a910e636409fd7ab5f812df194530835eccf77943e623f29b0dfe69", func := "loop.example/g01103/laws.FnExactBestSelection", spec := "fnExactBestSelection", unfollowed := true, recurses := true, apart := false }
def FnExactBestSelectionSaid : Prop := fnExactBestSelectionRow.holds Try.pinned (OpenSpec.ofChange fnExactBestSelectionSpec)

/-- ITS FALSE NEIGHBOUR: 'it returns false'. Refute it at one input. -/
def fnExactBestSelectionWrong : ChangeSpec := { name := "fnExactBestSelection", fn := fun _ => fun
  | [d] => { results := [.lit (.bool false)], args := [d] }
  | _ => none }
def FnExactBestSelectionWrongFalsely : Prop := fnExactBestSelectionRow.holds Try.pinned (OpenSpec.ofChange fnExactBestSelectionWrong)

/-- 'laws.FnExactFindShopProof': WHATEVER THE INPUT: true; the input reads as it did. -/
def fnExactFindShopProofSpec : ChangeSpec := { name := "fnExactFindShopProof", fn := fun _ => fun
  | [d] => { results := [.lit (.bool true)], args := [d] }
  | _ => none }
def fnExactFindShopProofRow : OpenClaim := { program := "ytlieeolnnehncaa", sum := "b70e27245a910e636409fd7ab5f812df194530835eccf77943e623f29b0dfe69", func := "loop.example/g01103/laws.FnExactFindShopProof", spec := "fnExactFindShopProof", unfollowed := true, recurses := true, apart := false }
def FnExactFindShopProofSaid : Prop := fnExactFindShopProofRow.holds Try.pinned (OpenSpec.ofChange fnExactFindShopProofSpec)

/-- ITS FALSE NEIGHBOUR: 'it returns false'. Refute it at one input. -/
def fnExactFindShopProofWrong : ChangeSpec := { name := "fnExactFindShopProof", fn := fun _ => fun
  | [d] => { results := [.lit (.bool false)], args := [d] }
  | _ => none }
def FnExactFindShopProofWrongFalsely : Prop := fnExactFindShopProofRow.holds Try.pinned (OpenSpec.ofChange fnExactFindShopProofWrong)

/-- 'laws.FnExactIdleChain': WHATEVER THE INPUT: true; the input reads as it did. -/
def fnExactIdleChainSpec : ChangeSpec := { name := "fnExactIdleChain", fn := fun _ => fun
  | [d1, d2, d3, d4] => { results := [.lit (.bool true)], args := [d1, d2, d3, d4] }
  | _ => none }
def fnExactIdleChainRow : OpenClaim := { program := "ytlieeolnnehncaa", sum := "b70e27245a910e636409fd7ab5f812df194530835eccf77943e623f29b0dfe69", func := "loop.example/g01103/laws.FnExactIdleChain", spec := "fnExactIdleChain", unfollowed := true, recurses := true, apart := false }
def FnExactIdleChainSaid : Prop := fnExactIdleChainRow.holds Try.pinned (OpenSpec.ofChange fnExactIdleChainSpec)

/-- ITS FALSE NEIGHBOUR: 'it returns false'. Refute it at one input. -/
def fnExactIdleChainWrong : ChangeSpec := { name := "fnExactIdleChain", fn := fun _ => fun
  | [d1, d2, d3, d4] => { results := [.lit (.bool false)], args := [d1, d2, d3, d4] }
  | _ => none }
def FnExactIdleChainWrongFalsely : Prop := fnExactIdleChainRow.holds Try.pinned (OpenSpec.ofChange fnExactIdleChainWrong)

/-- 'laws.FnExactListPlan': WHATEVER THE INPUT: true; the input reads as it did. -/
def fnExactListPlanSpec : ChangeSpec := { name := "fnExactListPlan", fn := fun _ => fun
  | [d1, d2, d3, d4] => { results := [.lit (.bool true)], args := [d1, d2, d3, d4] }
  | _ => none }
def fnExactListPlanRow : OpenClaim := { program := "ytlieeolnnehncaa", sum := "b70e27245a910e636409fd7ab5f812df194530835eccf77943e623f29b0dfe69", func := "loop.example/g01103/laws.FnExactListPlan", spec := "fnExactListPlan", unfollowed := true, recurses := true, apart := false }
def FnExactListPlanSaid : Prop := fnExactListPlanRow.holds Try.pinned (OpenSpec.ofChange fnExactListPlanSpec)

/-- ITS FALSE NEIGHBOUR: 'it returns false'. Refute it at one input. -/
def fnExactListPlanWrong : ChangeSpec := { name := "fnExactListPlan", fn := fun _ => fun
  | [d1, d2, d3, d4] => { results := [.lit (.bool false)], args := [d1, d2, d3, d4] }
  | _ => none }
def FnExactListPlanWrongFalsely : Prop := fnExactListPlanRow.holds Try.pinned (OpenSpec.ofChange fnExactListPlanWrong)

/- THE SECOND FORM. 'bulk': how many values and letters a reading holds, each counted each time it is reached (what is shared counts as often as it is met; a slice's spare places count too). A statement '..UptoSaid' is the law's where the arguments, and the package variables that the reading takes, are together of bulk at most 1048576: NARROWER than '..Said'. Prove '..Said' where nothing that the law and all that it calls make is longer than what came in: it says more and counts as full. Else prove '..UptoSaid'. A law counts once. -/
mutual
def uptoBulk {H : Type} : DataW H → Nat
  | .lit (.string bytes) => bytes.length + 1
  | .lit _ => 1
  | .nil => 1
  | .ptr d => uptoBulk d + 1
  | .slice elems spare => uptoBulkAll elems + uptoBulkAll spare + 1
  | .agg parts => uptoBulkAll parts + 1
  | .iface _ d => uptoBulk d + 1
  | .map entries => uptoBulkEntries entries + 1
  | .held _ => 1
def uptoBulkAll {H : Type} : List (DataW H) → Nat
  | [] => 0
  | d :: r => uptoBulk d + uptoBulkAll r
def uptoBulkEntries {H : Type} : List (Lit × DataW H) → Nat
  | [] => 0
  | x :: r => uptoBulkEntry x + uptoBulkEntries r
def uptoBulkEntry {H : Type} : Lit × DataW H → Nat
  | (.string bytes, d) => bytes.length + uptoBulk d + 1
  | (_, d) => uptoBulk d + 1
 end
def uptoSmall : (H : Type) → List (DataW H) → Bool := fun _ ds => decide (uptoBulkAll ds ≤ 1048576)
def OpenSpec.upto (s : _root_.Go.ChangeSpec) : _root_.Go.OpenSpec := { _root_.Go.OpenSpec.ofChange s with cond := some uptoSmall }

/-- 'laws.FnExactHeadsOf', WHERE WHAT IT READS IS OF BULK AT MOST 1048576: true; the input reads as it did. -/
def fnExactHeadsOfUptoRow : OpenClaim := { program := "ytlieeolnnehncaa", sum := "b70e27245a910e636409fd7ab5f812df194530835eccf77943e623f29b0dfe69", func := "loop.example/g01103/laws.FnExactHeadsOf", spec := "fnExactHeadsOf", unfollowed := true, recurses := true, apart := false, narrowed := true }
def FnExactHeadsOfUptoSaid : Prop := fnExactHeadsOfUptoRow.holds Try.pinned (OpenSpec.upto fnExactHeadsOfSpec)

/-- 'laws.FnExactOpTails', WHERE WHAT IT READS IS OF BULK AT MOST 1048576: true; the input reads as it did. -/
def fnExactOpTailsUptoRow : OpenClaim := { program := "ytlieeolnnehncaa", sum := "b70e27245a910e636409fd7ab5f812df194530835eccf77943e623f29b0dfe69", func := "loop.example/g01103/laws.FnExactOpTails", spec := "fnExactOpTails", unfollowed := true, recurses := true, apart := false, narrowed := true }
def FnExactOpTailsUptoSaid : Prop := fnExactOpTailsUptoRow.holds Try.pinned (OpenSpec.upto fnExactOpTailsSpec)

/-- 'laws.FnExactShopLength', WHERE WHAT IT READS IS OF BULK AT MOST 1048576: true; the input reads as it did. -/
def fnExactShopLengthUptoRow : OpenClaim := { program := "ytlieeolnnehncaa", sum := "b70e27245a910e636409fd7ab5f812df194530835eccf77943e623f29b0dfe69", func := "loop.example/g01103/laws.FnExactShopLength", spec := "fnExactShopLength", unfollowed := true, recurses := true, apart := false, narrowed := true }
def FnExactShopLengthUptoSaid : Prop := fnExactShopLengthUptoRow.holds Try.pinned (OpenSpec.upto fnExactShopLengthSpec)

/-- 'laws.FnExactSwapOps', WHERE WHAT IT READS IS OF BULK AT MOST 1048576: true; the input reads as it did. -/
def fnExactSwapOpsUptoRow : OpenClaim := { program := "ytlieeolnnehncaa", sum := "b70e27245a910e636409fd7ab5f812df194530835eccf77943e623f29b0dfe69", func := "loop.example/g01103/laws.FnExactSwapOps", spec := "fnExactSwapOps", unfollowed := true, recurses := true, apart := false, narrowed := true }
def FnExactSwapOpsUptoSaid : Prop := fnExactSwapOpsUptoRow.holds Try.pinned (OpenSpec.upto fnExactSwapOpsSpec)

/-- 'laws.FnExactCriticalPath', WHERE WHAT IT READS IS OF BULK AT MOST 1048576: true; the input reads as it did. -/
def fnExactCriticalPathUptoRow : OpenClaim := { program := "ytlieeolnnehncaa", sum := "b70e27245a910e636409fd7ab5f812df194530835eccf77943e623f29b0dfe69", func := "loop.example/g01103/laws.FnExactCriticalPath", spec := "fnExactCriticalPath", unfollowed := true, recurses := true, apart := false, narrowed := true }
def FnExactCriticalPathUptoSaid : Prop := fnExactCriticalPathUptoRow.holds Try.pinned (OpenSpec.upto fnExactCriticalPathSpec)

/-- 'laws.FnExactCriticalSwaps', WHERE WHAT IT READS IS OF BULK AT MOST 1048576: true; the input reads as it did. -/
def fnExactCriticalSwapsUptoRow : OpenClaim := { program := "ytlieeolnnehncaa", sum := "b70e27245a910e636409fd7ab5f812df194530835eccf77943e623f29b0dfe69", func := "loop.example/g01103/laws.FnExactCriticalSwaps", spec := "fnExactCriticalSwaps", unfollowed := true, recurses := true, apart := false, narrowed := true }
def FnExactCriticalSwapsUptoSaid : Prop := fnExactCriticalSwapsUptoRow.holds Try.pinned (OpenSpec.upto fnExactCriticalSwapsSpec)

/-- 'laws.FnExactLeavesBlocks', WHERE WHAT IT READS IS OF BULK AT MOST 1048576: true; the input reads as it did. -/
def fnExactLeavesBlocksUptoRow : OpenClaim := { program := "ytlieeolnnehncaa", sum := "b70e27245a910e636409fd7ab5f812df194530835eccf77943e623f29b0dfe69", func := "loop.example/g01103/laws.FnExactLeavesBlocks", spec := "fnExactLeavesBlocks", unfollowed := true, recurses := true, apart := false, narrowed := true }
def FnExactLeavesBlocksUptoSaid : Prop := fnExactLeavesBlocksUptoRow.holds Try.pinned (OpenSpec.upto fnExactLeavesBlocksSpec)

/-- 'laws.FnExactCriticalBlocks', WHERE WHAT IT READS IS OF BULK AT MOST 1048576: true; the input reads as it did. -/
def fnExactCriticalBlocksUptoRow : OpenClaim := { program := "ytlieeolnnehncaa", sum := "b70e27245a910e636409fd7ab5f812df194530835eccf77943e623f29b0dfe69", func := "loop.example/g01103/laws.FnExactCriticalBlocks", spec := "fnExactCriticalBlocks", unfollowed := true, recurses := true, apart := false, narrowed := true }
def FnExactCriticalBlocksUptoSaid : Prop := fnExactCriticalBlocksUptoRow.holds Try.pinned (OpenSpec.upto fnExactCriticalBlocksSpec)

/-- 'laws.FnExactBestSelection', WHERE WHAT IT READS IS OF BULK AT MOST 1048576: true; the input reads as it did. -/
def fnExactBestSelectionUptoRow : OpenClaim := { program := "ytlieeolnnehncaa", sum := "b70e27245a910e636409fd7ab5f812df194530835eccf77943e623f29b0dfe69", func := "loop.example/g01103/laws.FnExactBestSelection", spec := "fnExactBestSelection", unfollowed := true, recurses := true, apart := false, narrowed := true }
def FnExactBestSelectionUptoSaid : Prop := fnExactBestSelectionUptoRow.holds Try.pinned (OpenSpec.upto fnExactBestSelectionSpec)

/-- 'laws.FnExactFindShopProof', WHERE WHAT IT READS IS OF BULK AT MOST 1048576: true; the input reads as it did. -/
def fnExactFindShopProofUptoRow : OpenClaim := { program := "ytlieeolnnehncaa", sum := "b70e27245a910e636409fd7ab5f812df194530835eccf77943e623f29b0dfe69", func := "loop.example/g01103/laws.FnExactFindShopProof", spec := "fnExactFindShopProof", unfollowed := true, recurses := true, apart := false, narrowed := true }
def FnExactFindShopProofUptoSaid : Prop := fnExactFindShopProofUptoRow.holds Try.pinned (OpenSpec.upto fnExactFindShopProofSpec)

/-- 'laws.FnExactIdleChain', WHERE WHAT IT READS IS OF BULK AT MOST 1048576: true; the input reads as it did. -/
def fnExactIdleChainUptoRow : OpenClaim := { program := "ytlieeolnnehncaa", sum := "b70e27245a910e636409fd7ab5f812df194530835eccf77943e623f29b0dfe69", func := "loop.example/g01103/laws.FnExactIdleChain", spec := "fnExactIdleChain", unfollowed := true, recurses := true, apart := false, narrowed := true }
def FnExactIdleChainUptoSaid : Prop := fnExactIdleChainUptoRow.holds Try.pinned (OpenSpec.upto fnExactIdleChainSpec)

/-- 'laws.FnExactListPlan', WHERE WHAT IT READS IS OF BULK AT MOST 1048576: true; the input reads as it did. -/
def fnExactListPlanUptoRow : OpenClaim := { program := "ytlieeolnnehncaa", sum := "b70e27245a910e636409fd7ab5f812df194530835eccf77943e623f29b0dfe69", func := "loop.example/g01103/laws.FnExactListPlan", spec := "fnExactListPlan", unfollowed := true, recurses := true, apart := false, narrowed := true }
def FnExactListPlanUptoSaid : Prop := fnExactListPlanUptoRow.holds Try.pinned (OpenSpec.upto fnExactListPlanSpec)

end Rows
end Go.Proofs.Ytlieeolnnehncaa
