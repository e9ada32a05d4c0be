/-
  No cell of these rows narrows 'for every input' (looked for: loops, veiled, ifaces, maps, wideKeys, modest, calm, conditions, laid).
  DERIVED. THE GIVEN ROWS OF THIS SEAT. 7 by the template 'for every input the law returns true; each argument reads behind the call as it read before'; 0 by the template 'total and deterministic' (their statements: YtagofldjmcaalaaTotals.lean).
  GIVEN WITH THE SEED: the statements are not yours to turn. If you find one false, say at which input.
  Laid BY PROGRAM, IN A SANDBOX (cutbox-rows.mjs): the forced cells as the released guide's own fill.sh prints them over the translation cd0e26a144c17d54… (all of the seat's roots in one cut). By AI agents, Wed Nov 11 2026. No macro, syntax, notation, axiom, sorry.
-/
import Derived.Test.YtagofldjmcaalaaChecked
import GoSem.Claim
import GoSem.ClaimJoined
import GoSem.ClaimMapViews
import Derived.JoinedTies
import Derived.KernelRfl
namespace Go.Proofs.Ytagofldjmcaalaa
/- THE CELL 'sum', in the pinned program and in every row, IS THE sha256 OF THE DUMP (.gsa) THAT YtagofldjmcaalaaProg.lean LOADS. Nothing in Lean hashes anything: it is a label: what it is worth is what the hold of that sum in a sandbox is worth. -/
noncomputable def Try.pinned : Pinned := { name := "ytagofldjmcaalaa", sum := "cd0e26a144c17d540868734600f76de7a0f38b3e036bbd74867bf1002d1de429", checked := Try.checked }
namespace Rows
def none {H : Type} : Left H := { results := [], args := [] }

/-- 'laws.FnExactPriceProof': WHATEVER THE INPUT: true; the input reads as it did. -/
def fnExactPriceProofSpec : ChangeSpec := { name := "fnExactPriceProof", fn := fun _ => fun
  | [d1, d2, d3, d4] => { results := [.lit (.bool true)], args := [d1, d2, d3, d4] }
  | _ => none }
def fnExactPriceProofRow : OpenClaim := { program := "ytagofldjmcaalaa", sum := "cd0e26a144c17d540868734600f76de7a0f38b3e036bbd74867bf1002d1de429", func := "loop.example/g01103/laws.FnExactPriceProof", spec := "fnExactPriceProof", apart := false }
def FnExactPriceProofSaid : Prop := fnExactPriceProofRow.holds Try.pinned (OpenSpec.ofChange fnExactPriceProofSpec)

/-- ITS FALSE NEIGHBOUR: 'it returns false'. Refute it at one input. -/
def fnExactPriceProofWrong : ChangeSpec := { name := "fnExactPriceProof", fn := fun _ => fun
  | [d1, d2, d3, d4] => { results := [.lit (.bool false)], args := [d1, d2, d3, d4] }
  | _ => none }
def FnExactPriceProofWrongFalsely : Prop := fnExactPriceProofRow.holds Try.pinned (OpenSpec.ofChange fnExactPriceProofWrong)

/-- 'laws.FnExactFinishAll': WHATEVER THE INPUT: true; the input reads as it did. -/
def fnExactFinishAllSpec : ChangeSpec := { name := "fnExactFinishAll", fn := fun _ => fun
  | [d] => { results := [.lit (.bool true)], args := [d] }
  | _ => none }
def fnExactFinishAllRow : OpenClaim := { program := "ytagofldjmcaalaa", sum := "cd0e26a144c17d540868734600f76de7a0f38b3e036bbd74867bf1002d1de429", func := "loop.example/g01103/laws.FnExactFinishAll", spec := "fnExactFinishAll", apart := false }
def FnExactFinishAllSaid : Prop := fnExactFinishAllRow.holds Try.pinned (OpenSpec.ofChange fnExactFinishAllSpec)

/-- ITS FALSE NEIGHBOUR: 'it returns false'. Refute it at one input. -/
def fnExactFinishAllWrong : ChangeSpec := { name := "fnExactFinishAll", fn := fun _ => fun
  | [d] => { results := [.lit (.bool false)], args := [d] }
  | _ => none }
def FnExactFinishAllWrongFalsely : Prop := fnExactFinishAllRow.holds Try.pinned (OpenSpec.ofChange fnExactFinishAllWrong)

/-- 'laws.FnDispatchTimes': WHATEVER THE INPUT: true; the input reads as it did. -/
def fnDispatchTimesSpec : ChangeSpec := { name := "fnDispatchTimes", fn := fun _ => fun
  | [d] => { results := [.lit (.bool true)], args := [d] }
  | _ => none }
def fnDispatchTimesRow : OpenClaim := { program := "ytagofldjmcaalaa", sum := "cd0e26a144c17d540868734600f76de7a0f38b3e036bbd74867bf1002d1de429", func := "loop.example/g01103/laws.FnDispatchTimes", spec := "fnDispatchTimes", apart := false }
def FnDispatchTimesSaid : Prop := fnDispatchTimesRow.holds Try.pinned (OpenSpec.ofChange fnDispatchTimesSpec)

/-- ITS FALSE NEIGHBOUR: 'it returns false'. Refute it at one input. -/
def fnDispatchTimesWrong : ChangeSpec := { name := "fnDispatchTimes", fn := fun _ => fun
  | [d] => { results := [.lit (.bool false)], args := [d] }
  | _ => none }
def FnDispatchTimesWrongFalsely : Prop := fnDispatchTimesRow.holds Try.pinned (OpenSpec.ofChange fnDispatchTimesWrong)

/-- 'laws.FnDispatchers': WHATEVER THE INPUT: true; the input reads as it did. -/
def fnDispatchersSpec : ChangeSpec := { name := "fnDispatchers", fn := fun _ => fun
  | [d] => { results := [.lit (.bool true)], args := [d] }
  | _ => none }
def fnDispatchersRow : OpenClaim := { program := "ytagofldjmcaalaa", sum := "cd0e26a144c17d540868734600f76de7a0f38b3e036bbd74867bf1002d1de429", func := "loop.example/g01103/laws.FnDispatchers", spec := "fnDispatchers", apart := false }
def FnDispatchersSaid : Prop := fnDispatchersRow.holds Try.pinned (OpenSpec.ofChange fnDispatchersSpec)

/-- ITS FALSE NEIGHBOUR: 'it returns false'. Refute it at one input. -/
def fnDispatchersWrong : ChangeSpec := { name := "fnDispatchers", fn := fun _ => fun
  | [d] => { results := [.lit (.bool false)], args := [d] }
  | _ => none }
def FnDispatchersWrongFalsely : Prop := fnDispatchersRow.holds Try.pinned (OpenSpec.ofChange fnDispatchersWrong)

/-- 'laws.FnSplits': WHATEVER THE INPUT: true; the input reads as it did. -/
def fnSplitsSpec : ChangeSpec := { name := "fnSplits", fn := fun _ => fun
  | [d] => { results := [.lit (.bool true)], args := [d] }
  | _ => none }
def fnSplitsRow : OpenClaim := { program := "ytagofldjmcaalaa", sum := "cd0e26a144c17d540868734600f76de7a0f38b3e036bbd74867bf1002d1de429", func := "loop.example/g01103/laws.FnSplits", spec := "fnSplits", apart := false }
def FnSplitsSaid : Prop := fnSplitsRow.holds Try.pinned (OpenSpec.ofChange fnSplitsSpec)

/-- ITS FALSE NEIGHBOUR: 'it returns false'. Refute it at one input. -/
def fnSplitsWrong : ChangeSpec := { name := "fnSplits", fn := fun _ => fun
  | [d] => { results := [.lit (.bool false)], args := [d] }
  | _ => none }
def FnSplitsWrongFalsely : Prop := fnSplitsRow.holds Try.pinned (OpenSpec.ofChange fnSplitsWrong)

/-- 'laws.FnExactActDispatcher': WHATEVER THE INPUT: true; the input reads as it did. -/
def fnExactActDispatcherSpec : ChangeSpec := { name := "fnExactActDispatcher", fn := fun _ => fun
  | [d1, d2] => { results := [.lit (.bool true)], args := [d1, d2] }
  | _ => none }
def fnExactActDispatcherRow : OpenClaim := { program := "ytagofldjmcaalaa", sum := "cd0e26a144c17d540868734600f76de7a0f38b3e036bbd74867bf1002d1de429", func := "loop.example/g01103/laws.FnExactActDispatcher", spec := "fnExactActDispatcher", apart := false }
def FnExactActDispatcherSaid : Prop := fnExactActDispatcherRow.holds Try.pinned (OpenSpec.ofChange fnExactActDispatcherSpec)

/-- ITS FALSE NEIGHBOUR: 'it returns false'. Refute it at one input. -/
def fnExactActDispatcherWrong : ChangeSpec := { name := "fnExactActDispatcher", fn := fun _ => fun
  | [d1, d2] => { results := [.lit (.bool false)], args := [d1, d2] }
  | _ => none }
def FnExactActDispatcherWrongFalsely : Prop := fnExactActDispatcherRow.holds Try.pinned (OpenSpec.ofChange fnExactActDispatcherWrong)

/-- 'laws.FnExactPlayActs': WHATEVER THE INPUT: true; the input reads as it did. -/
def fnExactPlayActsSpec : ChangeSpec := { name := "fnExactPlayActs", fn := fun _ => fun
  | [d1, d2] => { results := [.lit (.bool true)], args := [d1, d2] }
  | _ => none }
def fnExactPlayActsRow : OpenClaim := { program := "ytagofldjmcaalaa", sum := "cd0e26a144c17d540868734600f76de7a0f38b3e036bbd74867bf1002d1de429", func := "loop.example/g01103/laws.FnExactPlayActs", spec := "fnExactPlayActs", apart := false }
def FnExactPlayActsSaid : Prop := fnExactPlayActsRow.holds Try.pinned (OpenSpec.ofChange fnExactPlayActsSpec)

/-- ITS FALSE NEIGHBOUR: 'it returns false'. Refute it at one input. -/
def fnExactPlayActsWrong : ChangeSpec := { name := "fnExactPlayActs", fn := fun _ => fun
  | [d1, d2] => { results := [.lit (.bool false)], args := [d1, d2] }
  | _ => none }
def FnExactPlayActsWrongFalsely : Prop := fnExactPlayActsRow.holds Try.pinned (OpenSpec.ofChange fnExactPlayActsWrong)

/- THE SECOND FORM. 'bulk': how many values and letters a reading holds, each counted each time it is reached (what is shared counts as often as it is met; a slice's spare places count too). A statement '..UptoSaid' is the law's where the arguments, and the package variables that the reading takes, are together of bulk at most 1048576: NARROWER than '..Said'. Prove '..Said' where nothing that the law and all that it calls make is longer than what came in: it says more and counts as full. Else prove '..UptoSaid'. A law counts once. -/
mutual
def uptoBulk {H : Type} : DataW H → Nat
  | .lit (.string bytes) => bytes.length + 1
  | .lit _ => 1
  | .nil => 1
  | .ptr d => uptoBulk d + 1
  | .slice elems spare => uptoBulkAll elems + uptoBulkAll spare + 1
  | .agg parts => uptoBulkAll parts + 1
  | .iface _ d => uptoBulk d + 1
  | .map entries => uptoBulkEntries entries + 1
  | .held _ => 1
def uptoBulkAll {H : Type} : List (DataW H) → Nat
  | [] => 0
  | d :: r => uptoBulk d + uptoBulkAll r
def uptoBulkEntries {H : Type} : List (Lit × DataW H) → Nat
  | [] => 0
  | x :: r => uptoBulkEntry x + uptoBulkEntries r
def uptoBulkEntry {H : Type} : Lit × DataW H → Nat
  | (.string bytes, d) => bytes.length + uptoBulk d + 1
  | (_, d) => uptoBulk d + 1
 end
def uptoSmall : (H : Type) → List (DataW H) → Bool := fun _ ds => decide (uptoBulkAll ds ≤ 1048576)
def OpenSpec.upto (s : _root_.Go.ChangeSpec) : _root_.Go.OpenSpec := { _root_.Go.OpenSpec.ofChange s with cond := some uptoSmall }

/-- 'laws.FnExactPriceProof', WHERE WHAT IT READS IS OF BULK AT MOST 1048576: true; the input reads as it did. -/
def fnExactPriceProofUptoRow : OpenClaim := { program := "ytagofldjmcaalaa", sum := "cd0e26a144c17d540868734600f76de7a0f38b3e036bbd74867bf1002d1de429", func := "loop.example/g01103/laws.FnExactPriceProof", spec := "fnExactPriceProof", apart := false, narrowed := true }
def FnExactPriceProofUptoSaid : Prop := fnExactPriceProofUptoRow.holds Try.pinned (OpenSpec.upto fnExactPriceProofSpec)

/-- 'laws.FnExactFinishAll', WHERE WHAT IT READS IS OF BULK AT MOST 1048576: true; the input reads as it did. -/
def fnExactFinishAllUptoRow : OpenClaim := { program := "ytagofldjmcaalaa", sum := "cd0e26a144c17d540868734600f76de7a0f38b3e036bbd74867bf1002d1de429", func := "loop.example/g01103/laws.FnExactFinishAll", spec := "fnExactFinishAll", apart := false, narrowed := true }
def FnExactFinishAllUptoSaid : Prop := fnExactFinishAllUptoRow.holds Try.pinned (OpenSpec.upto fnExactFinishAllSpec)

/-- 'laws.FnDispatchTimes', WHERE WHAT IT READS IS OF BULK AT MOST 1048576: true; the input reads as it did. -/
def fnDispatchTimesUptoRow : OpenClaim := { program := "ytagofldjmcaalaa", sum := "cd0e26a144c17d540868734600f76de7a0f38b3e036bbd74867bf1002d1de429", func := "loop.example/g01103/laws.FnDispatchTimes", spec := "fnDispatchTimes", apart := false, narrowed := true }
def FnDispatchTimesUptoSaid : Prop := fnDispatchTimesUptoRow.holds Try.pinned (OpenSpec.upto fnDispatchTimesSpec)

/-- 'laws.FnDispatchers', WHERE WHAT IT READS IS OF BULK AT MOST 1048576: true; the input reads as it did. -/
def fnDispatchersUptoRow : OpenClaim := { program := "ytagofldjmcaalaa", sum := "cd0e26a144c17d540868734600f76de7a0f38b3e036bbd74867bf1002d1de429", func := "loop.example/g01103/laws.FnDispatchers", spec := "fnDispatchers", apart := false, narrowed := true }
def FnDispatchersUptoSaid : Prop := fnDispatchersUptoRow.holds Try.pinned (OpenSpec.upto fnDispatchersSpec)

/-- 'laws.FnSplits', WHERE WHAT IT READS IS OF BULK AT MOST 1048576: true; the input reads as it did. -/
def fnSplitsUptoRow : OpenClaim := { program := "ytagofldjmcaalaa", sum := "cd0e26a144c17d540868734600f76de7a0f38b3e036bbd74867bf1002d1de429", func := "loop.example/g01103/laws.FnSplits", spec := "fnSplits", apart := false, narrowed := true }
def FnSplitsUptoSaid : Prop := fnSplitsUptoRow.holds Try.pinned (OpenSpec.upto fnSplitsSpec)

/-- 'laws.FnExactActDispatcher', WHERE WHAT IT READS IS OF BULK AT MOST 1048576: true; the input reads as it did. -/
def fnExactActDispatcherUptoRow : OpenClaim := { program := "ytagofldjmcaalaa", sum := "cd0e26a144c17d540868734600f76de7a0f38b3e036bbd74867bf1002d1de429", func := "loop.example/g01103/laws.FnExactActDispatcher", spec := "fnExactActDispatcher", apart := false, narrowed := true }
def FnExactActDispatcherUptoSaid : Prop := fnExactActDispatcherUptoRow.holds Try.pinned (OpenSpec.upto fnExactActDispatcherSpec)

/-- 'laws.FnExactPlayActs', WHERE WHAT IT READS IS OF BULK AT MOST 1048576: true; the input reads as it did. -/
def fnExactPlayActsUptoRow : OpenClaim := { program := "ytagofldjmcaalaa", sum := "cd0e26a144c17d540868734600f76de7a0f38b3e036bbd74867bf1002d1de429", func := "loop.example/g01103/laws.FnExactPlayActs", spec := "fnExactPlayActs", apart := false, narrowed := true }
def FnExactPlayActsUptoSaid : Prop := fnExactPlayActsUptoRow.holds Try.pinned (OpenSpec.upto fnExactPlayActsSpec)

end Rows
end Go.Proofs.Ytagofldjmcaalaa
