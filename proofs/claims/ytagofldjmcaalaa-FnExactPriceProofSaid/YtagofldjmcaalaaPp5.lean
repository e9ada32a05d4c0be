/- Functions of PriceProof: prices. -/
import Derived.Test.YtagofldjmcaalaaPp4
set_option linter.unusedVariables false
set_option linter.unusedSimpArgs false
set_option maxRecDepth 4000
namespace Go.Pm.PP
open Go.Pm Go.Proofs
/-- impl.arePrices -/
def after1 (a b : List Int) : Bool := !(decide ((a.length : Int) > b.length) || ((a.length : Int) == b.length) && decide (cmpL a b ≥ 0))
def priceOk (n : Int) (x : SP) : Bool := (risingL x.s && diffL n [] x.s) && !((x.s.length : Int) == 0) && inB x.p 1 50000000
def pricesL (n : Int) : List SP → Option SP → Bool
  | [], _ => true
  | x :: r, p => priceOk n x && (match p with | some a => after1 a.s x.s | none => true) && pricesL n r (some x)
theorem pricesL_nil {n : Int} {p : Option SP} : pricesL n [] p = true := rfl
theorem pricesL_cons0 {n : Int} {x : SP} {r : List SP} : pricesL n (x :: r) none = (priceOk n x && true && pricesL n r (some x)) := rfl
theorem pricesL_cons1 {n : Int} {x a : SP} {r : List SP} : pricesL n (x :: r) (some a) = (priceOk n x && after1 a.s x.s && pricesL n r (some x)) := rfl
theorem arePrices_run {h : Hp} {v vp : Value} {js : List Job} {ps : List SP} (hj : Jobs h v js) (hv : Prices h vp ps) (hjn : js.length ≤ 2 ^ 40) (hn : ps.length ≤ 2 ^ 40) :
    Ret P G n_impl_arePrices [v, vp] h (.bool (pricesL js.length ps none)) h := by
  refine enter_run e_impl_arePrices (by simp) ?_
  obtain ⟨oj, cj, rfl⟩ := hj.shapeT
  obtain ⟨oa, c, rfl⟩ := hv.sees.shapeT
  simp -implicitDefEqProofs
  refine R_loop (fun m s h' => ∃ i : Nat, i + m = ps.length ∧ s = [(0, .slice oj js.length cj), (1, .slice oa ps.length c), (8, .slice oa ps.length c), (9, .int .i64 ps.length), (10, .int .i64 i)] ∧ h <+: h' ∧ pricesL js.length ps none = pricesL js.length (ps.drop i) (if i = 0 then none else ps[i - 1]?)) (fun m s h' => ?_) ⟨0, Nat.zero_add _, by simp⟩
  rintro ⟨i, hi', rfl, hp, hx⟩
  have hv' := hv.pre hp
  by_cases hlt : i < ps.length
  · obtain ⟨y, hy, hd⟩ := drop_at hlt
    rw [hd] at hx
    have next : pricesL js.length (ps.drop (i + 1)) (some y) = pricesL js.length (ps.drop (i + 1)) (if i + 1 = 0 then none else ps[i + 1 - 1]?) := by simp [hy]
    obtain ⟨yv, yl, yp⟩ := y
    obtain ⟨ys, yn⟩ : Ints h' yv yl ∧ yl.length ≤ 2 ^ 40 := hv'.set _ (List.mem_of_getElem? hy)
    have yo := one_of ys
    have i0 := prices_idx hv' (i := i) (by omega) (by omega)
    rw [show (i : Int).toNat = i by omega] at i0
    have w0 : IntKind.i64.wrap (i + 1) = ((i : Int) + 1) := by rw [wrap_ok] <;> omega
    have ys2 := ys.ext [some ⟨[yv, .int .i64 yp], 0, false⟩]
    have ok : priceOk js.length ⟨yv, yl, yp⟩ = ((risingL yl && diffL js.length [] yl) && !((yl.length : Int) == 0) && inB yp 1 50000000) := rfl
    have lenY : ∃ ob d, yv = .slice ob yl.length d := ys.shapeT
    obtain ⟨ob, d, rfl⟩ := lenY
    by_cases h0 : i = 0
    · subst h0
      rw [if_pos rfl, pricesL_cons0, next, ok] at hx
      have w1 : IntKind.i64.wrap 1 = 1 := by rw [wrap_ok] <;> omega
      simp only [Nat.zero_mul, Int.natCast_zero] at i0 
      have hag := prices_agg hv' hy
      simp only [Nat.zero_mul] at hag
      cases h1 : (risingL yl && diffL js.length [] yl) <;> cases h2 : (yl.length : Int) == 0 <;> cases h3 : inB yp 1 50000000 <;>
        (rw [h1, h2, h3] at hx; simp -implicitDefEqProofs [show 0 < ps.length from hlt, i0, hag, yo, CL_ret (isSet_run ys2 yn), CL_ret within_run, h1, h2, h3, w1])
      all_goals first
        | (simp at hx; simp -implicitDefEqProofs [hx, gcB' hp]; done)
        | exact ⟨m - 1, by omega, 1, by omega, by omega, hp.trans (List.prefix_append ..), by simpa using hx⟩
    · obtain ⟨k, rfl⟩ : ∃ k, i = k + 1 := ⟨i - 1, by omega⟩
      obtain ⟨z, hz, _⟩ := drop_at (show k < ps.length by omega)
      obtain ⟨zv, zl, zp⟩ := z
      obtain ⟨zs, zn⟩ : Ints h' zv zl ∧ zl.length ≤ 2 ^ 40 := hv'.set _ (List.mem_of_getElem? hz)
      have af : after1 zl yl = !(decide ((zl.length : Int) > yl.length) || ((zl.length : Int) == yl.length) && decide (cmpL zl yl ≥ 0)) := rfl
      rw [if_neg h0, Nat.add_sub_cancel, hz, pricesL_cons1, next, ok, af] at hx
      have w1 : IntKind.i64.wrap ((k : Int) + 1 - 1) = k := by rw [wrap_ok] <;> omega
      have w2 : IntKind.i64.wrap (k : Int) = k := by rw [wrap_ok] <;> omega
      have w3 : IntKind.i64.wrap ((k : Int) + 1 + 1) = (k : Int) + 1 + 1 := by rw [wrap_ok] <;> omega
      have hv2 : Prices (h' ++ [some ⟨[.slice ob yl.length d, .int .i64 yp], 0, false⟩]) (.slice oa ps.length c) ps := hv'.pre (List.prefix_append ..)
      have i1 := prices_idx hv2 (i := k) (by omega) (by omega)
      rw [show (k : Int).toNat = k by omega] at i1
      have zs2 := zs.ext [some ⟨[.slice ob yl.length d, .int .i64 yp], 0, false⟩]
      have ls := prices_set hv2 hz
      obtain ⟨oz, dz, rfl⟩ := zs.shapeT
      rw [show (((k + 1 : Nat) : Int)) = (k : Int) + 1 by omega] at i0
      have pre : h <+: h' ++ [some ⟨[.slice ob yl.length d, .int .i64 yp], 0, false⟩] := hp.trans (List.prefix_append ..)
      cases h1 : (risingL yl && diffL js.length [] yl) <;> cases h2 : (yl.length : Int) == 0 <;> cases h3 : inB yp 1 50000000
      case true.false.true =>
        have cl := compareLists_run zs2 ys2 zn yn
        rw [h1, h2, h3] at hx
        by_cases h5 : zl.length = yl.length
        · rw [h5] at cl
          by_cases h6 : 0 ≤ cmpL zl yl
          · simp [h5, h6] at hx
            simp -implicitDefEqProofs [show (k : Int) + 1 < ps.length by omega, show (0 : Int) < (k : Int) + 1 by omega, i0, i1, ls, prices_agg hv' hy, yo, CL_ret (isSet_run ys2 yn), CL_ret within_run, CL_ret cl, h1, h2, h3, h5, w1, w2, w3, h6, hx, gcB' hp]
          · simp [h5, h6] at hx
            simp -implicitDefEqProofs [show (k : Int) + 1 < ps.length by omega, show (0 : Int) < (k : Int) + 1 by omega, i0, i1, ls, prices_agg hv' hy, yo, CL_ret (isSet_run ys2 yn), CL_ret within_run, CL_ret cl, h1, h2, h3, h5, w1, w2, w3, h6]
            exact ⟨m - 1, by omega, k + 1 + 1, by omega, by omega, pre, by simpa using hx⟩
        · have h5' : ((zl.length : Int) == yl.length) = false := beq_eq_false_iff_ne.2 (by omega)
          by_cases h4 : yl.length < zl.length
          · simp [h5, h5', h4] at hx
            simp -implicitDefEqProofs [show (k : Int) + 1 < ps.length by omega, show (0 : Int) < (k : Int) + 1 by omega, i0, i1, ls, prices_agg hv' hy, yo, CL_ret (isSet_run ys2 yn), CL_ret within_run, CL_ret cl, h1, h2, h3, h5, w1, w2, w3, h5', h4, hx, gcB' hp]
          · simp [h5, h5', h4] at hx
            simp -implicitDefEqProofs [show (k : Int) + 1 < ps.length by omega, show (0 : Int) < (k : Int) + 1 by omega, i0, i1, ls, prices_agg hv' hy, yo, CL_ret (isSet_run ys2 yn), CL_ret within_run, CL_ret cl, h1, h2, h3, h5, w1, w2, w3, h5', h4]
            exact ⟨m - 1, by omega, k + 1 + 1, by omega, by omega, pre, by simpa using hx⟩
      all_goals
        (rw [h1, h2, h3] at hx; simp at hx; simp -implicitDefEqProofs [show (k : Int) + 1 < ps.length by omega, i0, prices_agg hv' hy, yo, CL_ret (isSet_run ys2 yn), CL_ret within_run, h1, h2, h3, hx, gcB' hp])
  · rw [List.drop_eq_nil_of_le (by omega), pricesL_nil] at hx
    simp -implicitDefEqProofs [hlt, hx, gcB hp]
end Go.Pm.PP
