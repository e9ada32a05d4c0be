/- From the small machine to the model's calls: the top. -/
import Derived.Test.YtagofldjmcaalaaPmR
import Derived.Below
set_option linter.unusedVariables false
set_option linter.unusedSimpArgs false
namespace Go.Pm
open Go.RowKit
variable {P : Program} {G : FuncId → GI} {ρ : Mp} {h : Hp} {w : World}
theorem RunsC.calls (hm : P.follows .mixedOrders = true) {g : FuncId} {args args' : List Value} {K : Value → Hp → Prop} (r : RunsC P G g args h K) (R : Rel ρ h w) (hl : VL ρ h args args') :
    Calls P g args'.toArray w fun e w' => ∃ v v' h' ρ', e = .returned v' ∧ K v h' ∧ VR ρ' h' v v' ∧ Rel ρ' h' w' ∧ Go1 ρ h w ρ' h' w' := by
  obtain ⟨f, v, h', e, k⟩ := r
  refine ((sound P G hm f).call g args h v h' e ρ args' w R hl).mono fun e' w' hh => ?_
  obtain ⟨v', ρ', rfl, hv, R', Gx⟩ := hh
  exact ⟨v, v', h', ρ', rfl, k, hv, R', Gx⟩
theorem Go1.below {ρ' : Mp} {h' : Hp} {w' : World} (Gx : Go1 ρ h w ρ' h' w') (hro : ∀ (r : Nat) (x : Row), h[r]? = some (some x) → x.ro = true) : Below w.heap.size w w' :=
  ⟨Gx.os, Gx.tape, Gx.output, Gx.size, fun k hk => Gx.blk k hk fun r x p hx _ hr => by rw [hro r x hx] at hr; cases hr⟩
/-- A call that returns true, with arguments that are only read. -/
theorem Ret.true_calls (hm : P.follows .mixedOrders = true) {g : FuncId} {args args' : List Value} {h1 : Hp} (r : Ret P G g args h (.bool true) h1) (R : Rel ρ h w) (hl : VL ρ h args args') (hro : ∀ (r : Nat) (x : Row), h[r]? = some (some x) → x.ro = true) :
    Calls P g args'.toArray w fun e w' => e = .returned (.bool true) ∧ Below w.heap.size w w' := by
  refine (RunsC.calls hm r R hl).mono fun e w' hh => ?_
  obtain ⟨v, v', h', ρ', rfl, ⟨rfl, rfl⟩, hv, R', Gx⟩ := hh
  cases hv
  exact ⟨rfl, Gx.below hro⟩
end Go.Pm
