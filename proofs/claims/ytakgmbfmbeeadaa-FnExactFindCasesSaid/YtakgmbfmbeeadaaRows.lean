/-
  No cell of these rows narrows 'for every input' (looked for: loops, veiled, ifaces, maps, wideKeys, modest, calm, conditions, laid).
  DERIVED. THE GIVEN ROWS OF THIS SEAT. 3 by the template 'for every input the law returns true; each argument reads behind the call as it read before'; 0 by the template 'total and deterministic' (their statements: YtakgmbfmbeeadaaTotals.lean).
  GIVEN WITH THE SEED: the statements are not yours to turn. If you find one false, say at which input.
  Laid BY PROGRAM, IN A SANDBOX (cutbox-rows.mjs): the forced cells as the released guide's own fill.sh prints them over the translation ab3121202360145c… (all of the seat's roots in one cut). By AI agents, Wed Nov 11 2026. No macro, syntax, notation, axiom, sorry.
-/
import Derived.Test.YtakgmbfmbeeadaaChecked
import GoSem.Claim
import GoSem.ClaimJoined
import GoSem.ClaimMapViews
import Derived.JoinedTies
import Derived.KernelRfl
namespace Go.Proofs.Ytakgmbfmbeeadaa
/- THE CELL 'sum', in the pinned program and in every row, IS THE sha256 OF THE DUMP (.gsa) THAT YtakgmbfmbeeadaaProg.lean LOADS. Nothing in Lean hashes anything: it is a label: what it is worth is what the hold of that sum in a sandbox is worth. -/
noncomputable def Try.pinned : Pinned := { name := "ytakgmbfmbeeadaa", sum := "ab3121202360145c97caa74321400628d7619b89801d14f8628e6972d828381d", checked := Try.checked }
namespace Rows
def none {H : Type} : Left H := { results := [], args := [] }

/-- 'laws.FnExactRegretBound': WHATEVER THE INPUT: true; the input reads as it did. -/
def fnExactRegretBoundSpec : ChangeSpec := { name := "fnExactRegretBound", fn := fun _ => fun
  | [d1, d2, d3] => { results := [.lit (.bool true)], args := [d1, d2, d3] }
  | _ => none }
def fnExactRegretBoundRow : OpenClaim := { program := "ytakgmbfmbeeadaa", sum := "ab3121202360145c97caa74321400628d7619b89801d14f8628e6972d828381d", func := "loop.example/g01103/laws.FnExactRegretBound", spec := "fnExactRegretBound", unfollowed := true, recurses := true, apart := false }
def FnExactRegretBoundSaid : Prop := fnExactRegretBoundRow.holds Try.pinned (OpenSpec.ofChange fnExactRegretBoundSpec)

/-- ITS FALSE NEIGHBOUR: 'it returns false'. Refute it at one input. -/
def fnExactRegretBoundWrong : ChangeSpec := { name := "fnExactRegretBound", fn := fun _ => fun
  | [d1, d2, d3] => { results := [.lit (.bool false)], args := [d1, d2, d3] }
  | _ => none }
def FnExactRegretBoundWrongFalsely : Prop := fnExactRegretBoundRow.holds Try.pinned (OpenSpec.ofChange fnExactRegretBoundWrong)

/-- 'laws.FnExactFindCases': WHATEVER THE INPUT: true; the input reads as it did. -/
def fnExactFindCasesSpec : ChangeSpec := { name := "fnExactFindCases", fn := fun _ => fun
  | [d1, d2] => { results := [.lit (.bool true)], args := [d1, d2] }
  | _ => none }
def fnExactFindCasesRow : OpenClaim := { program := "ytakgmbfmbeeadaa", sum := "ab3121202360145c97caa74321400628d7619b89801d14f8628e6972d828381d", func := "loop.example/g01103/laws.FnExactFindCases", spec := "fnExactFindCases", unfollowed := true, recurses := true, apart := false }
def FnExactFindCasesSaid : Prop := fnExactFindCasesRow.holds Try.pinned (OpenSpec.ofChange fnExactFindCasesSpec)

/-- ITS FALSE NEIGHBOUR: 'it returns false'. Refute it at one input. -/
def fnExactFindCasesWrong : ChangeSpec := { name := "fnExactFindCases", fn := fun _ => fun
  | [d1, d2] => { results := [.lit (.bool false)], args := [d1, d2] }
  | _ => none }
def FnExactFindCasesWrongFalsely : Prop := fnExactFindCasesRow.holds Try.pinned (OpenSpec.ofChange fnExactFindCasesWrong)

/-- 'laws.FnExactSeriesOrder': WHATEVER THE INPUT: true; the input reads as it did. -/
def fnExactSeriesOrderSpec : ChangeSpec := { name := "fnExactSeriesOrder", fn := fun _ => fun
  | [d1, d2] => { results := [.lit (.bool true)], args := [d1, d2] }
  | _ => none }
def fnExactSeriesOrderRow : OpenClaim := { program := "ytakgmbfmbeeadaa", sum := "ab3121202360145c97caa74321400628d7619b89801d14f8628e6972d828381d", func := "loop.example/g01103/laws.FnExactSeriesOrder", spec := "fnExactSeriesOrder", unfollowed := true, recurses := true, apart := false }
def FnExactSeriesOrderSaid : Prop := fnExactSeriesOrderRow.holds Try.pinned (OpenSpec.ofChange fnExactSeriesOrderSpec)

/-- ITS FALSE NEIGHBOUR: 'it returns false'. Refute it at one input. -/
def fnExactSeriesOrderWrong : ChangeSpec := { name := "fnExactSeriesOrder", fn := fun _ => fun
  | [d1, d2] => { results := [.lit (.bool false)], args := [d1, d2] }
  | _ => none }
def FnExactSeriesOrderWrongFalsely : Prop := fnExactSeriesOrderRow.holds Try.pinned (OpenSpec.ofChange fnExactSeriesOrderWrong)

/- THE SECOND FORM. 'bulk': how many values and letters a reading holds, each counted each time it is reached (what is shared counts as often as it is met; a slice's spare places count too). A statement '..UptoSaid' is the law's where the arguments, and the package variables that the reading takes, are together of bulk at most 1048576: NARROWER than '..Said'. Prove '..Said' where nothing that the law and all that it calls make is longer than what came in: it says more and counts as full. Else prove '..UptoSaid'. A law counts once. -/
mutual
def uptoBulk {H : Type} : DataW H → Nat
  | .lit (.string bytes) => bytes.length + 1
  | .lit _ => 1
  | .nil => 1
  | .ptr d => uptoBulk d + 1
  | .slice elems spare => uptoBulkAll elems + uptoBulkAll spare + 1
  | .agg parts => uptoBulkAll parts + 1
  | .iface _ d => uptoBulk d + 1
  | .map entries => uptoBulkEntries entries + 1
  | .held _ => 1
def uptoBulkAll {H : Type} : List (DataW H) → Nat
  | [] => 0
  | d :: r => uptoBulk d + uptoBulkAll r
def uptoBulkEntries {H : Type} : List (Lit × DataW H) → Nat
  | [] => 0
  | x :: r => uptoBulkEntry x + uptoBulkEntries r
def uptoBulkEntry {H : Type} : Lit × DataW H → Nat
  | (.string bytes, d) => bytes.length + uptoBulk d + 1
  | (_, d) => uptoBulk d + 1
 end
def uptoSmall : (H : Type) → List (DataW H) → Bool := fun _ ds => decide (uptoBulkAll ds ≤ 1048576)
def OpenSpec.upto (s : _root_.Go.ChangeSpec) : _root_.Go.OpenSpec := { _root_.Go.OpenSpec.ofChange s with cond := some uptoSmall }

/-- 'laws.FnExactRegretBound', WHERE WHAT IT READS IS OF BULK AT MOST 1048576: true; the input reads as it did. -/
def fnExactRegretBoundUptoRow : OpenClaim := { program := "ytakgmbfmbeeadaa", sum := "ab3121202360145c97caa74321400628d7619b89801d14f8628e6972d828381d", func := "loop.example/g01103/laws.FnExactRegretBound", spec := "fnExactRegretBound", unfollowed := true, recurses := true, apart := false, narrowed := true }
def FnExactRegretBoundUptoSaid : Prop := fnExactRegretBoundUptoRow.holds Try.pinned (OpenSpec.upto fnExactRegretBoundSpec)

/-- 'laws.FnExactFindCases', WHERE WHAT IT READS IS OF BULK AT MOST 1048576: true; the input reads as it did. -/
def fnExactFindCasesUptoRow : OpenClaim := { program := "ytakgmbfmbeeadaa", sum := "ab3121202360145c97caa74321400628d7619b89801d14f8628e6972d828381d", func := "loop.example/g01103/laws.FnExactFindCases", spec := "fnExactFindCases", unfollowed := true, recurses := true, apart := false, narrowed := true }
def FnExactFindCasesUptoSaid : Prop := fnExactFindCasesUptoRow.holds Try.pinned (OpenSpec.upto fnExactFindCasesSpec)

/-- 'laws.FnExactSeriesOrder', WHERE WHAT IT READS IS OF BULK AT MOST 1048576: true; the input reads as it did. -/
def fnExactSeriesOrderUptoRow : OpenClaim := { program := "ytakgmbfmbeeadaa", sum := "ab3121202360145c97caa74321400628d7619b89801d14f8628e6972d828381d", func := "loop.example/g01103/laws.FnExactSeriesOrder", spec := "fnExactSeriesOrder", unfollowed := true, recurses := true, apart := false, narrowed := true }
def FnExactSeriesOrderUptoSaid : Prop := fnExactSeriesOrderUptoRow.holds Try.pinned (OpenSpec.upto fnExactSeriesOrderSpec)

end Rows
end Go.Proofs.Ytakgmbfmbeeadaa
