/- PriceProof, the program's and the reference's. -/
import Derived.Test.YtagofldjmcaalaaPp5
import Derived.Test.YtagofldjmcaalaaPp6
import Derived.Test.YtagofldjmcaalaaPp7
import Derived.Test.YtagofldjmcaalaaPp10
set_option linter.unusedVariables false
set_option linter.unusedSimpArgs false
set_option maxRecDepth 4000
set_option maxHeartbeats 4000000
namespace Go.Pm.PP
open Go.Pm Go.Proofs
def pairV (a b : Bool) : Value := .tuple #[.bool a, .bool b]
theorem gc_pair {h : Hp} {a b : Bool} : gc h h (pairV a b) = h := gc_self ..
def specOk (js : List Job) (ps : List SP) (sc : Int) (xs : List Int) : Bool := (l6GoodL js && pricesS js.length ps none && inB sc 1 1000000) && l2OrderL js.length xs
def specV (js : List Job) (ps : List SP) (sc : Int) (xs : List Int) : Bool := fairL ps sc 0 js && (yieldGo js ps 0 == w64 (sc * sumW js (endsS js xs) 0))
theorem specPP_run {h : Hp} {v vp u : Value} {js : List Job} {ps : List SP} {xs : List Int} {sc : Int} (hj : Jobs h v js) (hp : Prices h vp ps) (hv : Ints h u xs) (hjn : js.length ≤ 2 ^ 40) (hpn : ps.length ≤ 2 ^ 40) (hn : xs.length ≤ 2 ^ 40)
    (hin : pricesS js.length ps none = true → ∀ x ∈ ps, inside js.length x.s) (hio : l2OrderL js.length xs = true → inside js.length xs) :
    Ret P G n_spec_PriceProof [v, vp, .int .i64 sc, u] h (if specOk js ps sc xs then pairV (specV js ps sc xs) true else pairV false false) h := by
  refine enter_run e_spec_PriceProof (by simp) ?_
  have c1 := @l10Scaled_run h v vp js ps sc hj hp hjn hpn
  have c2 := @l2Order_run h u xs js.length hv hn
  have c3 := @l10Fair_run h v vp js ps sc hj hp hjn hpn
  obtain ⟨oj, cj, rfl⟩ := hj.shapeT
  cases h1 : (l6GoodL js && pricesS js.length ps none && inB sc 1 1000000)
  · simp -implicitDefEqProofs [specOk, CL_ret c1, h1, pairV]
  · cases h2 : l2OrderL js.length xs
    · simp -implicitDefEqProofs [specOk, CL_ret c1, CL_ret c2, h1, h2, pairV]
    · simp only [Bool.and_eq_true] at h1
      have c4 := l10Yield_run hj hp hpn (hin h1.1.2)
      have c5 := l2Value_run hj hv hn hjn (hio h2)
      cases h3 : fairL ps sc 0 js
      · simp -implicitDefEqProofs [specOk, specV, CL_ret c1, CL_ret c2, CL_ret c3, h1, h2, h3, pairV]
      · simp -implicitDefEqProofs [specOk, specV, CL_ret c1, CL_ret c2, CL_ret c3, CL_ret c4, CL_ret c5, h1, h2, h3, pairV, w64]
def implOk (js : List Job) (ps : List SP) (sc : Int) (xs : List Int) : Bool := (decide (js.length ≤ 8) && goodL js && plainL js) && pricesL js.length ps none && inB sc 1 1000000 && (((xs.length : Int) == js.length) && diffL js.length [] xs)
def implV (js : List Job) (ps : List SP) (sc : Int) (xs : List Int) : Bool := fairL ps sc 0 js && (yieldGo js ps 0 == w64 (sc * sumW js (endsI js xs) 0))
theorem implPP_run {h : Hp} {v vp u : Value} {js : List Job} {ps : List SP} {xs : List Int} {sc : Int} (hj : Jobs h v js) (hp : Prices h vp ps) (hv : Ints h u xs) (hjn : js.length ≤ 2 ^ 40) (hpn : ps.length ≤ 2 ^ 40) (hn : xs.length ≤ 2 ^ 40)
    (hin : pricesL js.length ps none = true → ∀ x ∈ ps, inside js.length x.s) (hio : diffL js.length [] xs = true → inside js.length xs) :
    Ret P G n_impl_PriceProof [v, vp, .int .i64 sc, u] h (if implOk js ps sc xs then pairV (implV js ps sc xs) true else pairV false false) h := by
  refine enter_run e_impl_PriceProof (by simp) ?_
  have c1 := @IsPlain_run h v js hj hjn
  have c2 := @arePrices_run h v vp js ps hj hp hjn hpn
  have c3 := @isOrder_run h u xs js.length hv hn
  have c4 := @isFair_run h v vp js ps sc hj hp hjn hpn
  obtain ⟨oj, cj, rfl⟩ := hj.shapeT
  cases h1 : (decide (js.length ≤ 8) && goodL js && plainL js)
  · simp -implicitDefEqProofs [implOk, CL_ret c1, h1, pairV]
  · cases h2 : pricesL js.length ps none
    · simp -implicitDefEqProofs [implOk, CL_ret c1, CL_ret c2, h1, h2, pairV]
    · cases h3 : inB sc 1 1000000
      · simp -implicitDefEqProofs [implOk, CL_ret c1, CL_ret c2, CL_ret isScale_run, h1, h2, h3, pairV]
      · cases h4 : (((xs.length : Int) == js.length) && diffL js.length [] xs)
        · simp -implicitDefEqProofs [implOk, CL_ret c1, CL_ret c2, CL_ret c3, CL_ret isScale_run, h1, h2, h3, h4, pairV]
        · have h5 := h4
          simp only [Bool.and_eq_true] at h5
          have c5 := yieldOf_run hj hp hpn (hin h2)
          have c6 := valueOf_run hj hv hn hjn (hio h5.2)
          cases h6 : fairL ps sc 0 js
          · simp -implicitDefEqProofs [implOk, implV, CL_ret c1, CL_ret c2, CL_ret c3, CL_ret c4, CL_ret isScale_run, h1, h2, h3, h4, h6, pairV]
          · simp -implicitDefEqProofs [implOk, implV, CL_ret c1, CL_ret c2, CL_ret c3, CL_ret c4, CL_ret c5, CL_ret c6, CL_ret isScale_run, h1, h2, h3, h4, h6, pairV, w64]
end Go.Pm.PP
